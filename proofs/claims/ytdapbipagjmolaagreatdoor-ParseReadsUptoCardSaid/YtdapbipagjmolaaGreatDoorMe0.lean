/- Texts for a statement of this seat. -/
import Derived.WalkKit
import Derived.Below
import Derived.Deep.Draws
import Derived.Orders
import Derived.Scope
import Derived.Deep.MidRow
import Derived.Laws.IdiomCopy
import Derived.Laws.StructEq
import Derived.Maps.AppendAt
import Derived.Lib.AppendStr
import Derived.Laws.BytesArg
import Derived.Laws.MakeOwn
import Derived.Lib.Bytealg
import Derived.OrdersHeld
import Derived.Deep.RegionHeld3
import Derived.Lib.Builder
import Derived.Laws.Externs
import Derived.Lib.IndexMore
import Derived.Lib.IndexAny
import Derived.Lib.UnsafeStr
import Derived.Laws.IdiomStrings
set_option linter.unusedSectionVars false
set_option linter.unusedVariables false
set_option linter.unusedSimpArgs false
set_option linter.unnecessarySimpa false
theorem yA{α : Sort _} {_ : Decidable False} (t e : α) : ite False t e = e := if_false t e
theorem yB{α : Sort _} {_ : Decidable True} (t e : α) : ite True t e = t := if_true t e
theorem yC{n m : Nat} (h : n.beq m = true) : n = m := Nat.eq_of_beq_eq_true h
theorem yD{n m : Nat} (h : n.ble m = true) : n <= m := Nat.le_of_ble_eq_true h
theorem yE{α : Type _} (a b c : List α) : a ++ b ++ c = a ++ (b ++ c) := List.append_assoc a b c
theorem yF{α : Type _} {l m : List α} {i : Nat} (h : i < l.length) : (l ++ m)[i]? = l[i]? := List.getElem?_append_left h
theorem yG{α : Type _} {l m : List α} {i : Nat} (h : l.length <= i) : (l ++ m)[i]? = m[i - l.length]? := List.getElem?_append_right h
theorem yH{α : Type _} [BEq α] [LawfulBEq α] {a b : α} : (a == b) = false ↔ a ≠ b := beq_eq_false_iff_ne
theorem yI{α : Type _} {a : α} {l m : List α} : a :: l ++ m = a :: (l ++ m) := rfl
theorem yJ(n : Nat) : n <= n := Nat.le_refl n
theorem yK{c : Prop} {h : Decidable c} (n : ¬c) {α : Sort _} {t e : α} : ite c t e = e := if_neg n
theorem yL{c : Prop} {h : Decidable c} (n : c) {α : Sort _} {t e : α} : ite c t e = t := if_pos n
theorem yM{α β : Type _} {f : α -> β} {l : List α} : l.tail.map f = (l.map f).tail := List.map_tail
theorem yN : (!false) = true := rfl
theorem yO : (!true) = false := rfl
theorem yP{α : Type _} {b : α} {l : List α} {a : α} : a ∈ b :: l ↔ a = b \/ a ∈ l := List.mem_cons
theorem yQ(a b : Bool) : ((a || b) = true) = (a = true \/ b = true) := Bool.or_eq_true a b
theorem yR{α : Type _} {l : List α} {i j : Nat} {a : α} : (l.set i a)[j]? = if i = j then if i < l.length then some a else none else l[j]? := List.getElem?_set
theorem yS{α : Type _} {a b : α} (h : some a = some b) : a = b := Option.some.inj h
theorem yT{p : Prop} [Decidable p] : (decide p = true) = p := decide_eq_true_eq
theorem qz0{α : Type _} {l : List α} {i : Nat} {a : α} (h : l[i]? = some a) : ∃ h : i < l.length, l[i] = a := List.getElem?_eq_some_iff.1 h
theorem qz1{α β : Type _} (a : α) (f : α -> Option β) : (some a).bind f = f a := rfl
theorem qz2: (false = true) = False := Bool.false_eq_true
theorem qz3{α : Type _} {a : α} {l : List α} : (a :: l).length = l.length + 1 := rfl
theorem qz4(a b : Bool) : ((a && b) = true) = (a = true /\ b = true) := Bool.and_eq_true a b
theorem qz5{α : Type _} {l m : List α} : (l ++ m).length = l.length + m.length := List.length_append
theorem qz6{α : Type _} : ([] : List α).length = 0 := rfl
theorem qz7{α : Type _} {a : α} {l : List α} : a ∈ a :: l := List.mem_cons_self
theorem qz8{α : Type _} {a : α} (y : α) {l : List α} (h : a ∈ l) : a ∈ y :: l := List.mem_cons_of_mem y h
theorem qz9{α : Type _} {l : List α} {i : Nat} (h : i < l.length) : l[i]? = some l[i] := List.getElem?_eq_getElem h
namespace Go.Gw
open Go.RowKit
abbrev Heap:=Nat->Option Obj
structure Heap.Le (g h:Heap):Prop where
 out: ∀b o,g b=some o->h b=some o
structure Heap.Apart (g h:Heap):Prop where
 out: ∀b,g b=none\/h b=none
def Heap.join(g h:Heap):Heap:=λb=>match g b with|some o=>some o|none=>h b
def Heap.one(b:Nat)(o:Obj):Heap:=λx=>if x=b then some o else none
def Heap.nil:Heap:=λ_=>none
structure Heap.Sub (h:Heap) (w:World):Prop where
 out: ∀b o,h b=some o->w.heap[b]? =some o
theorem Heap.Le.refl(g:Heap):g.Le g:=⟨λ_ _ h=>h⟩
theorem Heap.Le.trans{f g h:Heap}(a:f.Le g)(b:g.Le h):f.Le h:=⟨λx o e=>b.out x o (a.out x o e)⟩
theorem Heap.Sub.lt{h:Heap}{w:World}(hs:h.Sub w){b:Nat}{o:Obj}(e:h b=some o):b<w.heap.size:=
 (Array.getElem?_eq_some_iff.1 (hs.out b o e)).1
theorem Heap.Sub.free{h:Heap}{w:World}(hs:h.Sub w){b:Nat}(e:w.heap.size<=b):h b=none:=by
 cases e':h b with
 |none=>rfl
 |some o=>have:=hs.lt e';omega
theorem Heap.Apart.symm{g h:Heap}(a:g.Apart h):h.Apart g:=⟨λb=>(a.out b).symm⟩
theorem Heap.join_none{g h:Heap}{b:Nat}:(g.join h) b=none↔g b=none/\h b=none:=by
 unfold Heap.join;cases e:g b<;>simp
theorem Heap.zh1{g h:Heap}{b:Nat}{o:Obj}(e:g b=some o):(g.join h) b=some o:=by simp[Heap.join,e]
theorem Heap.zeT{g h:Heap}(a:g.Apart h){b:Nat}{o:Obj}(e:h b=some o):(g.join h) b=some o:=by
 rcases a.out b with h0|h0
 ·simp[Heap.join,h0,e]
 ·rw[e]at h0;cases h0
theorem Heap.join_some{g h:Heap}{b:Nat}{o:Obj}(e:(g.join h) b=some o):g b=some o\/h b=some o:=by
 unfold Heap.join at e;cases e':g b with
 |none=>rw[e']at e;exact .inr e
 |some p=>rw[e']at e;exact .inl e
theorem Heap.join_comm{g h:Heap}(a:g.Apart h):g.join h=h.join g:=by
 funext b;unfold Heap.join;rcases a.out b with e|e<;>rw[e]<;>cases h b<;>cases g b<;>simp_all
theorem Heap.join_assoc(f g h:Heap):(f.join g).join h=f.join (g.join h):=by
 funext b;unfold Heap.join;cases f b<;>simp
theorem Heap.zgT{f g h:Heap}:(f.join g).Apart h↔f.Apart h/\g.Apart h:=by
 constructor
 ·intro a;refine⟨⟨λb=>?_⟩,⟨λb=>?_⟩⟩<;>rcases a.out b with e|e<;>simp_all [Heap.join_none]
 ·intro⟨a,c⟩;refine⟨λb=>?_⟩;rcases a.out b with e|e
  ·rcases c.out b with e'|e'
   ·exact .inl (Heap.join_none.2 ⟨e,e'⟩)
   ·exact .inr e'
  ·exact .inr e
theorem Heap.zcq{f g h:Heap}:h.Apart (f.join g)↔h.Apart f/\h.Apart g:=
 ⟨λa=>⟨((Heap.zgT.1 a.symm).1).symm,((Heap.zgT.1 a.symm).2).symm⟩,λ⟨a,c⟩=>(Heap.zgT.2 ⟨a.symm,c.symm⟩).symm⟩
theorem Heap.znc(h:Heap):Heap.nil.Apart h:=⟨λ_=> .inl rfl⟩
theorem Heap.join_nil(h:Heap):h.join Heap.nil=h:=by funext b;unfold Heap.join Heap.nil;cases h b<;>rfl
theorem Heap.zu9(h:Heap):Heap.nil.join h=h:=rfl
theorem Heap.Sub.join{g h:Heap}{w:World}(a:g.Sub w)(b:h.Sub w):(g.join h).Sub w:=⟨λx o e=>(Heap.join_some e).elim (a.out x o) (b.out x o)⟩
theorem Heap.zdZ(g h:Heap):g.Le (g.join h):=⟨λ_ _ e=>Heap.zh1 e⟩
theorem Heap.Sub.zfH{g h:Heap}{w:World}(a:(g.join h).Sub w):g.Sub w:=⟨λx o e=>a.out x o (Heap.zh1 e)⟩
theorem Heap.Sub.zim{g h:Heap}{w:World}(a:(g.join h).Sub w)(c:g.Apart h):h.Sub w:=⟨λx o e=>a.out x o (Heap.zeT c e)⟩
theorem Heap.zks{b x:Nat}{o p:Obj}(e:Heap.one b o x=some p):x=b/\p=o:=by
 unfold Heap.one at e;split at e
 ·exact⟨by assumption,by cases e;rfl⟩
 ·cases e
theorem Heap.zfs(b:Nat)(o:Obj):Heap.one b o b=some o:=by simp[Heap.one]
theorem Heap.zGW{b x:Nat}(o:Obj)(h:x≠b):Heap.one b o x=none:=by simp[Heap.one,h]
theorem Heap.zi3{h:Heap}{b:Nat}{o:Obj}:h.Apart (Heap.one b o)↔h b=none:=by
 constructor
 ·intro a;rcases a.out b with e|e
  ·exact e
  ·rw[Heap.zfs]at e;cases e
 ·intro e;refine⟨λx=>?_⟩;by_cases hx:x=b
  ·subst hx;exact .inl e
  ·exact .inr (Heap.zGW o hx)
structure SP where
 holds:Heap->Heap->Prop
 mono: ∀{F F' h},F.Le F'->holds F h->holds F' h
def all(F:Heap):List SP->Heap->Prop
 | [],h=>h=Heap.nil
 |A::L,h=>∃g k,A.holds F g/\all F L k/\g.Apart k/\h=g.join k
theorem zu7{F F':Heap}(hle:F.Le F'): ∀{L:List SP} {h:Heap},all F L h->all F' L h
 | [],_,e=>e
 |A::_,_,⟨g,k,a,b,c,d⟩=>⟨g,k,A.mono hle a,zu7 hle b,c,d⟩
theorem zKN{F:Heap}{A:SP}{h:Heap}:all F [A] h↔A.holds F h:=by
 constructor
 ·rintro⟨g,k,a,rfl,_,rfl⟩;rw[Heap.join_nil];exact a
 ·exact λa=>⟨h,_,a,rfl,(Heap.znc _).symm,(Heap.join_nil _).symm⟩
theorem all_append{F:Heap}: ∀{L M:List SP} {h:Heap},all F (L++M) h↔∃g k,all F L g/\all F M k/\g.Apart k/\h=g.join k
 | [],M,h=>by
  constructor
  ·exact λa=>⟨Heap.nil,h,rfl,a,Heap.znc _,rfl⟩
  ·rintro⟨g,k,rfl,b,_,rfl⟩;exact b
 |A::L,M,h=>by
  constructor
  ·rintro⟨g,k,a,b,c,rfl⟩;obtain⟨g2,k2,b1,b2,b3,rfl⟩:=all_append.1 b;obtain⟨c1,c2⟩:=Heap.zcq.1 c;exact⟨g.join g2,k2,⟨g,g2,a,b1,c1,rfl⟩,b2,Heap.zgT.2 ⟨c2,b3⟩,(Heap.join_assoc _ _ _).symm⟩
  ·rintro⟨x,k2,⟨g,g2,a,b1,c1,rfl⟩,b2,c,rfl⟩;obtain⟨c2,b3⟩:=Heap.zgT.1 c;exact⟨g,g2.join k2,a,all_append.2 ⟨g2,k2,b1,b2,b3,rfl⟩,Heap.zcq.2 ⟨c1,c2⟩,Heap.join_assoc _ _ _⟩
theorem zma{F:Heap}: ∀{L:List SP} {i:Nat} {A:SP} {h:Heap},L[i]? =some A->all F L h->
  ∃g k,A.holds F g/\g.Apart k/\h=g.join k/\all F (L.eraseIdx i) k/\
   (∀{F':Heap} {A':SP} {g' k':Heap},F.Le F'->A'.holds F' g'->all F' (L.eraseIdx i) k'->g'.Apart k'->all F' (L.set i A') (g'.join k'))
 | [],i,A,h,e,_=>by simp at e
 |B::L,0,A,h,e,⟨g,k,a,b,c,d⟩=>by
  simp at e;subst e;exact⟨g,k,a,c,d,b,λ_ a' b' c'=>⟨_,_,a',b',c',rfl⟩⟩
 |B::L,i+1,A,h,e,⟨g,k,a,b,c,d⟩=>by
  simp only[List.getElem?_cons_succ]at e;obtain⟨g2,k2,a2,c2,rfl,b2,put⟩:=zma e b;obtain⟨c3,c4⟩:=Heap.zcq.1 c;refine⟨g2,g.join k2,a2,Heap.zcq.2 ⟨c3.symm,c2⟩,?_,⟨g,k2,a,b2,c4,rfl⟩,?_⟩
  ·rw[d,<-Heap.join_assoc,<-Heap.join_assoc,Heap.join_comm c3]
  ·intro F' A' g' k' hle a' ⟨p,q,b1,b3,b4,e'⟩ c';subst e';obtain⟨c5,c6⟩:=Heap.zcq.1 c';refine⟨p,g'.join q,b1,put hle a' b3 c6,Heap.zcq.2 ⟨c5.symm,b4⟩,?_⟩;rw[<-Heap.join_assoc,<-Heap.join_assoc,Heap.join_comm c5]
def pt(b:Nat)(o:Obj):SP:=⟨λ_ h=>h=Heap.one b o,λ_ e=>e⟩
structure Own where
 has:Nat->Prop
 known:List Nat
instance:CoeFun Own (λ_=>Nat->Prop):=⟨Own.has⟩
structure St (w0:World) (F0:Heap) (D:Own) (w:World) (F:Heap) (L:List SP):Prop where
 os:w.os=w0.os
 tape:w.tape=w0.tape
 output:w.output=w0.output
 size:w0.heap.size<=w.heap.size
 frame: ∀b,b<w0.heap.size->¬D b->w.heap[b]? =w0.heap[b]?
 le:F0.Le F
 new: ∀b,b<w0.heap.size->¬D b->F b=F0 b
 view:F.Sub w
 own: ∃h,all F L h/\h.Sub w/\F.Apart h/\∀b o,h b=some o->D b\/w0.heap.size<=b
def No:Own:=⟨λ_=>False,[]⟩
theorem St.start{w:World}{F:Heap}(hv:F.Sub w):St w F No w F []:=
 ⟨rfl,rfl,rfl,yJ _,λ_ _ _=>rfl,.refl F,λ_ _ _=>rfl,hv,Heap.nil,rfl,⟨λ_ _ e=>by cases e⟩,⟨λ_=> .inr rfl⟩,λ_ _ e=>by cases e⟩
section
variable {w0 w:World} {F0 F:Heap} {D:Own} {L:List SP}
theorem St.below(h:St w0 F0 No w F L):Below w0.heap.size w0 w:=
 ⟨h.os,h.tape,h.output,h.size,λb hb=>h.frame b hb (λx=>x)⟩
theorem St.widen(h:St w0 F0 No w F L)(D':Own):St w0 F0 D' w F L:=
 ⟨h.os,h.tape,h.output,h.size,λb hb _=>h.frame b hb (λx=>x),h.le,λb hb _=>h.new b hb (λx=>x),h.view,let⟨x,a,s,f,d⟩:=h.own;⟨x,a,s,f,λb o e=>(d b o e).imp (λx=>x.elim) id⟩⟩
theorem St.drew(h:St w0 F0 D w F L)(n:Nat):St w0 F0 D (w.drewN n) F L:=
 ⟨h.os,h.tape,h.output,h.size,h.frame,h.le,h.new,⟨h.view.out⟩,let⟨x,a,s,r⟩:=h.own;⟨x,a,⟨s.out⟩,r⟩⟩
theorem St.forget{A:SP}(h:St w0 F0 D w F (A::L)):St w0 F0 D w F L:=by
 obtain⟨x,⟨g,k,a,b,c,rfl⟩,s,f,d⟩:=h.own;exact⟨h.os,h.tape,h.output,h.size,h.frame,h.le,h.new,h.view,k,b,s.zim c,(Heap.zcq.1 f).2,λx o e=>d x o (Heap.zeT c e)⟩
theorem St.only{M:List SP}(h:St w0 F0 D w F (L++M)):St w0 F0 D w F M:=by
 induction L with
 |nil=>exact h
 |cons A L ih=>exact ih h.forget
theorem St.swap{L M:List SP}(h:St w0 F0 D w F (L++M)):St w0 F0 D w F (M++L):=by
 obtain⟨x,a,s,f,d⟩:=h.own;obtain⟨g,k,b,c,e,rfl⟩:=all_append.1 a;exact⟨h.os,h.tape,h.output,h.size,h.frame,h.le,h.new,h.view,g.join k,all_append.2 ⟨k,g,c,b,e.symm,Heap.join_comm e⟩,s,f,d⟩
theorem Heap.Sub.alloc{g:Heap}{w:World}(hs:g.Sub w)(o:Obj):g.Sub (w.alloc o):=
 ⟨λb p e=>by rw[Below.heap_alloc w o b (hs.lt e)];exact hs.out b p e⟩
theorem zz1(w:World)(o:Obj):(w.alloc o).heap.size=w.heap.size+1:=Array.size_push ..
theorem Heap.Sub.zG0(w:World)(o:Obj):(Heap.one w.heap.size o).Sub (w.alloc o):=
 ⟨λb p e=>by obtain⟨rfl,rfl⟩:=Heap.zks e;exact Array.getElem?_push_size⟩
theorem St.alloc(h:St w0 F0 D w F L)(o:Obj):St w0 F0 D (w.alloc o) F (pt w.heap.size o::L):=by
 obtain⟨x,a,s,f,d⟩:=h.own;have hn:x w.heap.size=none:=s.free (yJ _)
 refine⟨h.os,h.tape,h.output,?_,?_,h.le,h.new,h.view.alloc o,(Heap.one w.heap.size o).join x,⟨_,x,rfl,a,(Heap.zi3.2 hn).symm,rfl⟩,(Heap.Sub.zG0 w o).join (s.alloc o),
  Heap.zcq.2 ⟨Heap.zi3.2 (h.view.free (yJ _)),f⟩,?_⟩
 ·rw[zz1];have:=h.size;omega
 ·intro b hb hd;rw[Below.heap_alloc w o b (Nat.lt_of_lt_of_le hb h.size)];exact h.frame b hb hd
 ·intro b p e;rcases Heap.join_some e with e|e
  ·obtain⟨rfl,_⟩:=Heap.zks e;exact .inr h.size
  ·exact d b p e
theorem St.zR9(h:St w0 F0 D w F L)(o:Obj):St w0 F0 D (w.alloc o) (F.join (Heap.one w.heap.size o)) L:=by
 obtain⟨x,a,s,f,d⟩:=h.own;have hF:F w.heap.size=none:=h.view.free (yJ _)
 refine⟨h.os,h.tape,h.output,?_,?_,h.le.trans (Heap.zdZ _ _),?_,(h.view.alloc o).join (Heap.Sub.zG0 w o),x,zu7 (Heap.zdZ _ _) a,s.alloc o,
  Heap.zgT.2 ⟨f,(Heap.zi3.2 (s.free (yJ _))).symm⟩,d⟩
 ·rw[zz1];have:=h.size;omega
 ·intro b hb hd;rw[Below.heap_alloc w o b (Nat.lt_of_lt_of_le hb h.size)];exact h.frame b hb hd
 ·intro b hb hd;have:b≠w.heap.size:=by have:=h.size;omega
  rw[<-h.new b hb hd];unfold Heap.join;rw[Heap.zGW o this];cases F b<;>rfl
theorem St.block(h:St w0 F0 D w F L){i b:Nat}{o:Obj}(hi:L[i]? =some (pt b o)):w.heap[b]? =some o:=by
 obtain⟨x,a,s,f,d⟩:=h.own;obtain⟨g,k,rfl,_,rfl,_,_⟩:=zma hi a;exact s.out b o (Heap.zh1 (Heap.zfs b o))
theorem Heap.Sub.moved{g:Heap}{w w':World}{b:Nat}(hs:g.Sub w)(hn:g b=none)(hne: ∀x,x≠b->w'.heap[x]? =w.heap[x]?):g.Sub w':=
 ⟨λy p e=>by rw[hne y (λe'=>by subst e';rw[hn]at e;cases e)];exact hs.out y p e⟩
theorem St.write(h:St w0 F0 D w F L){i b:Nat}{o o':Obj}(hi:L[i]? =some (pt b o)){w':World}
  (hos:w'.os=w.os) (htape:w'.tape=w.tape) (hout:w'.output=w.output) (hsize:w'.heap.size=w.heap.size)
  (hb:w'.heap[b]? =some o') (hne: ∀x,x≠b->w'.heap[x]? =w.heap[x]?):St w0 F0 D w' F (L.set i (pt b o')):=by
 obtain⟨x,a,s,f,d⟩:=h.own;obtain⟨g,k,rfl,c,rfl,ae,put⟩:=zma hi a;obtain⟨f1,f2⟩:=Heap.zcq.1 f;have hbF:F b=none:=Heap.zi3.1 f1;have hbk:k b=none:=Heap.zi3.1 c.symm;have hDb:D b\/w0.heap.size<=b:=d b o (Heap.zh1 (Heap.zfs b o))
 refine⟨hos.trans h.os,htape.trans h.tape,hout.trans h.output,by rw[hsize];exact h.size,?_,h.le,h.new,h.view.moved hbF hne,(Heap.one b o').join k,
  put (.refl F) rfl ae (Heap.zi3.2 hbk).symm,?_,Heap.zcq.2 ⟨Heap.zi3.2 hbF,f2⟩,?_⟩
 ·intro y hy hd;rw[hne y (λe=>by subst e;rcases hDb with e|e;exact hd e;omega)]
  exact h.frame y hy hd
 ·exact Heap.Sub.join ⟨λy p e=>by obtain⟨rfl,rfl⟩:=Heap.zks e;exact hb⟩ ((s.zim c).moved hbk hne)
 ·intro y p e;rcases Heap.join_some e with e|e
  ·obtain⟨rfl,_⟩:=Heap.zks e;exact hDb
  ·exact d y p (Heap.zeT c e)
theorem zH4(w:World)(p:Addr)(v:Value):(w.setCell p v).heap.size=w.heap.size:=by simp[World.setCell]
theorem zIG(w:World)(b i:Nat)(v:Value){c:Array Value}{t:TypeId}(h:w.heap[b]? =some (.cells c t (0,0))):
  (w.setCell ⟨b,i,none⟩ v).heap[b]? =some (.cells (c.setIfInBounds i v) t (0,0)):=by
 simp[World.setCell,Array.getElem?_modify,h]
theorem St.zNx(h:St w0 F0 D w F L){i:Nat}{A:SP}(hi:L[i]? =some A)(hnew: ∀g,A.holds F g->g.Sub w->∀b o,g b=some o->D b\/w0.heap.size<=b):
  ∃g,A.holds F g/\F.Apart g/\St w0 F0 D w (F.join g) (L.eraseIdx i):=by
 obtain⟨x,a,s,f,d⟩:=h.own;obtain⟨g,k,ha,c,rfl,ae,put⟩:=zma hi a;obtain⟨f1,f2⟩:=Heap.zcq.1 f;refine⟨g,ha,f1,h.os,h.tape,h.output,h.size,h.frame,h.le.trans (Heap.zdZ _ _),?_,h.view.join s.zfH,k,zu7 (Heap.zdZ _ _) ae,s.zim c,Heap.zgT.2 ⟨f2,c⟩,λb o e=>d b o (Heap.zeT c e)⟩;intro b hb hd;rw[<-h.new b hb hd];cases e:g b with
 |none=>unfold Heap.join;cases F b<;>simp[e]
 |some o=>rcases hnew g ha s.zfH b o e with e2|e2;exact absurd e2 hd;omega
end
theorem St.call{w0 w:World}{F0 F:Heap}{D:Own}{L M:List SP}(h:St w0 F0 D w F (L++M)):
  ∃p:Nat->Prop,∀bs,St w F ⟨p,bs⟩ w F M/\∀{w' F' M'},St w F ⟨p,bs⟩ w' F' M'->St w0 F0 D w' F' (L++M'):=by
 obtain⟨x,a,s,f,d⟩:=h.own;obtain⟨g,k,aL,aM,c,rfl⟩:=all_append.1 a;obtain⟨f1,f2⟩:=Heap.zcq.1 f;refine⟨λb=>k b≠none,λbs=>⟨⟨rfl,rfl,rfl,yJ _,λ_ _ _=>rfl,.refl F,λ_ _ _=>rfl,h.view,k,aM,s.zim c,f2,λb o e=> .inl (show k b≠none by rw[e];exact λe=>by cases e)⟩,?_⟩⟩
 intro w' F' M' h';obtain⟨k',aM',s',f',d'⟩:=h'.own;have hg:g.Sub w:=s.zfH;have hgk: ∀b o,g b=some o->k b=none:=λb o e=>by rcases c.out b with e'|e';rw[e]at e';cases e';exact e'
 have gk':g.Apart k':=⟨λb=>by
  cases e:g b with
  |none=>exact .inl rfl
  |some o=>
   right;cases e':k' b with
   |none=>rfl
   |some p=>
    rcases d' b p e' with e2|e2
    ·exact absurd (hgk b o e) e2
    ·have:=hg.lt e;omega⟩
 refine⟨h'.os.trans h.os,h'.tape.trans h.tape,h'.output.trans h.output,Nat.le_trans h.size h'.size,?_,h.le.trans h'.le,?_,h'.view,g.join k',all_append.2 ⟨g,k',zu7 h'.le aL,aM',gk',rfl⟩,?_,?_,?_⟩
 ·intro b hb hd;have hb':b<w.heap.size:=Nat.lt_of_lt_of_le hb h.size;rw[h'.frame b hb' ?_]
  ·exact h.frame b hb hd
  ·intro hk;cases e:k b with
   |none=>exact hk e
   |some o=>rcases d b o (Heap.zeT c e)with e2|e2;exact hd e2;omega
 ·intro b hb hd;rw[h'.new b (Nat.lt_of_lt_of_le hb h.size) ?_]
  ·exact h.new b hb hd
  ·intro hk;cases e:k b with
   |none=>exact hk e
   |some o=>rcases d b o (Heap.zeT c e)with e2|e2;exact hd e2;omega
 ·refine Heap.Sub.join ⟨λb o e=>?_⟩ s';rw[h'.frame b (hg.lt e) (λhk=>hk (hgk b o e))];exact hg.out b o e
 ·refine Heap.zcq.2 ⟨⟨λb=>?_⟩,f'⟩;cases e:g b with
  |none=>exact .inr rfl
  |some o=>
   left;rw[h'.new b (hg.lt e) (λhk=>hk (hgk b o e))];rcases f1.out b with e2|e2
   ·exact e2
   ·rw[e]at e2;cases e2
 ·intro b o e;rcases Heap.join_some e with e|e
  ·exact d b o (Heap.zh1 e)
  ·rcases d' b o e with e2|e2
   ·cases e3:k b with
    |none=>exact absurd e3 e2
    |some p=>exact d b p (Heap.zeT c e3)
   ·exact .inr (Nat.le_trans h.size e2)
structure PP where
 holds:Heap->Prop
 mono: ∀{F F'},F.Le F'->holds F->holds F'
inductive SV where
 |v (x:Value)
 |p (g:PP) (x:Value)
 |ptr (k off:Nat)
 |slc (k off len cap:Nat)
 |el (b off:Nat) (l:List SV)
 |agg (l:List SV)
 |tup (l:List SV)
 |opt (q:Bool) (k off:Nat)
 |fn (f:Nat) (l:List SV)
mutual
def SV.den(ρ:Nat->Nat):SV->Value
 | .v x=>x
 | .p _ x=>x
 | .ptr k off=> .pointer (some ⟨ρ k,off,none⟩)
 | .slc k off len cap=> .slice (some ⟨ρ k,off,none⟩) len cap
 | .el b off _=> .pointer (some ⟨b,off,none⟩)
 | .agg l=> .agg (SV.zaV ρ l).toArray
 | .tup l=> .tuple (SV.zaV ρ l).toArray
 | .opt q k off=> .pointer (if q=true then some ⟨ρ k,off,none⟩else none)
 | .fn f l=> .func (.func f) #[] (SV.zaV ρ l).toArray
def SV.zaV(ρ:Nat->Nat):List SV->List Value
 | []=>[]
 |s::l=>s.den ρ::SV.zaV ρ l
end
mutual
def SV.plain:SV->Option Value
 | .v x=>some x
 | .p _ x=>some x
 | .el b off _=>some (.pointer (some ⟨b,off,none⟩))
 | .agg l=>match SV.zct l with|some cs=>some (.agg cs.toArray)|none=>none
 |_=>none
def SV.zct:List SV->Option (List Value)
 | []=>some []
 |s::l=>match s.plain,SV.zct l with|some x,some r=>some (x::r)|_,_=>none
end
def zkF(F:Heap)(b off:Nat)(v:Value):Prop:=∃cs t fz,F b=some (.cells cs t fz)/\cs[off]? =some v
theorem ziX{F F':Heap}(h:F.Le F'){b off:Nat}{v:Value}:zkF F b off v->zkF F' b off v:=λ⟨cs,t,fz,e,g⟩=>⟨cs,t,fz,h.out _ _ e,g⟩
def zoo(F:Heap)(b off:Nat)(vs:List Value):Prop:=∀j v,vs[j]? =some v->zkF F b (off+j) v
theorem zmq{F F':Heap}(h:F.Le F'){b off:Nat}{vs:List Value}(a:zoo F b off vs):zoo F' b off vs:=λj v e=>ziX h (a j v e)
theorem ziV{F:Heap}{w:World}(h:F.Sub w){b off:Nat}{v:Value}:zkF F b off v->w.cell? ⟨b,off,none⟩=some v:=λ⟨cs,t,fz,e,g⟩=>by
 unfold World.cell?;rw[h.out _ _ e];simpa using g
mutual
def SV.good(F:Heap):SV->Prop
 | .p g _=>g.holds F
 | .el b off l=>SV.zbs F l/\∃cs,SV.zct l=some cs/\zoo F b off cs
 | .agg l=>SV.zbs F l
 | .tup l=>SV.zbs F l
 | .fn _ l=>SV.zbs F l
 |_=>True
def SV.zbs(F:Heap):List SV->Prop
 | []=>True
 |s::l=>s.good F/\SV.zbs F l
end
mutual
def SV.under(n:Nat):SV->Bool
 | .ptr k _=>k<n
 | .slc k _ _ _=>k<n
 | .el _ _ l=>SV.zbE n l
 | .agg l=>SV.zbE n l
 | .tup l=>SV.zbE n l
 | .opt _ k _=>k<n
 | .fn _ l=>SV.zbE n l
 |_=>true
def SV.zbE(n:Nat):List SV->Bool
 | []=>true
 |s::l=>s.under n&&SV.zbE n l
end
theorem SV.zg0(ρ:Nat->Nat): ∀l,SV.zaV ρ l=l.map (SV.den ρ)
 | []=>rfl
 |s::l=>by rw[SV.zaV,SV.zg0 ρ l];rfl
theorem SV.zcW{F:Heap}: ∀{l},SV.zbs F l↔∀s∈l,s.good F
 | []=>by simp[SV.zbs]
 |s::l=>by simp[SV.zbs,SV.zcW]
theorem SV.zdd{n:Nat}: ∀{l},SV.zbE n l=true↔∀s∈l,s.under n=true
 | []=>by simp[SV.zbE]
 |s::l=>by simp[SV.zbE,SV.zdd]
mutual
theorem SV.zGX{F F':Heap}(h:F.Le F'): ∀{s:SV},s.good F->s.good F'
 | .p g _,a=>g.mono h a
 | .el _ _ _,a=>by simp only[SV.good]at a⊢;obtain⟨a1,cs,e,c⟩:=a;exact⟨SV.znP h a1,cs,e,zmq h c⟩
 | .agg _,a=>SV.znP h (by simpa [SV.good]using a)
 | .tup _,a=>SV.znP h (by simpa [SV.good]using a)
 | .fn _ _,a=>SV.znP h (by simpa [SV.good]using a)
 | .v _,_=>trivial
 | .ptr ..,_=>trivial
 | .opt ..,_=>trivial
 | .slc ..,_=>trivial
theorem SV.znP{F F':Heap}(h:F.Le F'): ∀{l:List SV},SV.zbs F l->SV.zbs F' l
 | [],_=>trivial
 |_::_,⟨a,b⟩=>⟨SV.zGX h a,SV.znP h b⟩
end
mutual
theorem SV.zqi{n m:Nat}(h:n<=m): ∀{s:SV},s.under n=true->s.under m=true
 | .opt _ k _,a=>by simp[SV.under]at*;omega
 | .ptr k _,a=>by simp[SV.under]at*;omega
 | .slc k ..,a=>by simp[SV.under]at*;omega
 | .el _ _ _,a=>SV.zku h (by simpa [SV.under]using a)
 | .agg _,a=>SV.zku h (by simpa [SV.under]using a)
 | .tup _,a=>SV.zku h (by simpa [SV.under]using a)
 | .fn _ _,a=>SV.zku h (by simpa [SV.under]using a)
 | .v _,_=>rfl
 | .p ..,_=>rfl
theorem SV.zku{n m:Nat}(h:n<=m): ∀{l:List SV},SV.zbE n l=true->SV.zbE m l=true
 | [],_=>rfl
 |_::_,a=>by simp[SV.zbE]at*;exact⟨SV.zqi h a.1,SV.zku h a.2⟩
end
mutual
theorem SV.zyq{ρ ρ':Nat->Nat}{n:Nat}(h: ∀k,k<n->ρ' k=ρ k): ∀{s:SV},s.under n=true->s.den ρ'=s.den ρ
 | .opt _ k _,a=>by simp[SV.under]at a;simp[SV.den,h k a]
 | .ptr k _,a=>by simp[SV.under]at a;simp[SV.den,h k a]
 | .slc k ..,a=>by simp[SV.under]at a;simp[SV.den,h k a]
 | .el ..,_=>rfl
 | .agg _,a=>by simp only[SV.den];rw[SV.zoW h (by simpa [SV.under]using a)]
 | .tup _,a=>by simp only[SV.den];rw[SV.zoW h (by simpa [SV.under]using a)]
 | .fn _ _,a=>by simp only[SV.den];rw[SV.zoW h (by simpa [SV.under]using a)]
 | .v _,_=>rfl
 | .p ..,_=>rfl
theorem SV.zoW{ρ ρ':Nat->Nat}{n:Nat}(h: ∀k,k<n->ρ' k=ρ k): ∀{l:List SV},SV.zbE n l=true->SV.zaV ρ' l=SV.zaV ρ l
 | [],_=>rfl
 |_::_,a=>by simp[SV.zbE]at a;simp only[SV.zaV];rw[SV.zyq h a.1,SV.zoW h a.2]
end
structure Box where
 ty:TypeId
 cells:List SV
def Box.sp(ρ:Nat->Nat)(k:Nat)(b:Box):SP:=pt (ρ k) (.cells (SV.zaV ρ b.cells).toArray b.ty (0,0))
def emp:SP:=⟨λ_ h=>h=Heap.nil,λ_ e=>e⟩
def zH5(ρ:Nat->Nat)(k:Nat):Option Box->SP
 |some b=>b.sp ρ k
 |none=>emp
def boxes(ρ:Nat->Nat):Nat->List (Option Box)->List SP
 |_,[]=>[]
 |k,b::B=>zH5 ρ k b::boxes ρ (k+1) B
abbrev Env:=List (Nat×SV)
def look:Env->Nat->Option SV
 | [],_=>none
 | (k,s)::l,t=>bif Nat.beq k t then some s else look l t
def ov(l:Env):Operand->Option SV
 | .tmp t=>look l t
 | .const v=>some (.v v)
 | .func f=>some (.v (.func (.func f) #[] #[]))
 | .global g=>some (.v (.pointer (some ⟨g,0,none⟩)))
structure Cx (N:Nat) (w0:World) (F0:Heap) (D:Own) (w:World) (F:Heap) (L:List SP) (B:List (Option Box)) (ρ:Nat->Nat) (l:Env) (a:Act):Prop where
 size:a.tmps.size=N
 nodef:a.defers=[]
 env: ∀t s,look l t=some s->t<N/\a.tmps.getD t undef=s.den ρ
 good: ∀t s,look l t=some s->s.good F/\s.under B.length=true
 bgood: ∀b,some b∈B->SV.zbs F b.cells/\SV.zbE B.length b.cells=true
 fix: ∀k b,D.known[k]? =some b->k<B.length/\ρ k=b
 st:St w0 F0 D w F (boxes ρ 0 B++L)
section
variable {P:Program} {N:Nat} {w0:World} {F0:Heap} {D:Own} {w:World} {F:Heap} {L:List SP} {B:List (Option Box)} {ρ:Nat->Nat} {l:Env} {a:Act}
theorem Cx.eval(h:Cx N w0 F0 D w F L B ρ l a){x:Operand}{s:SV}(hx:ov l x=some s):a.eval x=s.den ρ:=by
 cases x with
 |tmp t=>exact(h.env t s hx).2
 |const v=>cases hx;rfl
 |global g=>cases hx;rfl
 |func f=>cases hx;rfl
theorem Cx.zjE(h:Cx N w0 F0 D w F L B ρ l a){x:Operand}{s:SV}(hx:ov l x=some s):s.good F/\s.under B.length=true:=by
 cases x with
 |tmp t=>exact h.good t s hx
 |const v=>cases hx;exact⟨trivial,rfl⟩
 |global g=>cases hx;exact⟨trivial,rfl⟩
 |func f=>cases hx;exact⟨trivial,rfl⟩
theorem zDZ(a:Act)(d:Option Tmp)(v:Value):(a.put d v).tmps.size=a.tmps.size:=by cases d<;>simp[Act.put]
theorem put_defers(a:Act)(d:Option Tmp)(v:Value):(a.put d v).defers=a.defers:=by cases d<;>rfl
theorem zna(a:Act)(d:Nat)(v:Value)(h:d<a.tmps.size):(a.put (some d) v).tmps.getD d undef=v:=by
 simp[Act.put,Array.getD,h]
theorem zoA(a:Act)(d t:Nat)(v:Value)(h:t≠d):(a.put (some d) v).tmps.getD t undef=a.tmps.getD t undef:=by
 simp only[Act.put,Array.getD_eq_getD_getElem?];rw[Array.getElem?_setIfInBounds_ne (Ne.symm h)]
theorem Cx.put(h:Cx N w0 F0 D w F L B ρ l a){d:Nat}{s:SV}(hd:d<N)(hg:s.good F)(hb:s.under B.length=true):Cx N w0 F0 D w F L B ρ ((d,s)::l) (a.put (some d) (s.den ρ)):=by
 refine⟨by rw[zDZ];exact h.size,by rw[put_defers];exact h.nodef,λt u e=>?_,λt u e=>?_,h.bgood,h.fix,h.st⟩
 · simp only[look]at e;cases hk:Nat.beq d t with
   |true=>
     rw[hk]at e;simp at e;subst e;have:=yC hk;subst this;exact⟨hd,zna _ _ _ (by rw[h.size];exact hd)⟩
   |false=>
     rw[hk]at e;simp at e;have hne:t≠d:=λe'=>by rw[<-e',Nat.beq_refl]at hk;cases hk
     rw[zoA _ _ _ _ hne];exact h.env t u e
 · simp only[look]at e;cases hk:Nat.beq d t with
   |true=>rw[hk]at e;simp at e;subst e;exact⟨hg,hb⟩
   |false=>rw[hk]at e;simp at e;exact h.good t u e
theorem Cx.world{w':World}{F':Heap}{L':List SP}(h:Cx N w0 F0 D w F L B ρ l a)(hle:F.Le F')(hs:St w0 F0 D w' F' (boxes ρ 0 B++L')):Cx N w0 F0 D w' F' L' B ρ l a:=
 ⟨h.size,h.nodef,h.env,λt s e=>⟨SV.zGX hle (h.good t s e).1,(h.good t s e).2⟩,λb hb=>⟨SV.znP hle (h.bgood b hb).1,(h.bgood b hb).2⟩,h.fix,hs⟩
inductive zzn (l:Env):Env->Prop
 |nil:zzn l []
 |cons {t:Nat} {s:SV} {l':Env} (h:look l t=some s) (r:zzn l l'):zzn l ((t,s)::l')
theorem zzn.look{l l':Env}(h:zzn l l'): ∀t s,look l' t=some s->look l t=some s:=by
 induction h with
 |nil=>intro t s e;cases e
 | @cons t0 s0 l0 hl _ ih=>
   intro t s e;simp only[Gw.look]at e;cases hk:Nat.beq t0 t with
   |true=>rw[hk]at e;simp at e;subst e;rw[<-yC hk];exact hl
   |false=>rw[hk]at e;simp at e;exact ih t s e
theorem Cx.pick{l':Env}(h:Cx N w0 F0 D w F L B ρ l a)(p:zzn l l'):Cx N w0 F0 D w F L B ρ l' a:=
 ⟨h.size,h.nodef,λt s e=>h.env t s (p.look t s e),λt s e=>h.good t s (p.look t s e),h.bgood,h.fix,h.st⟩
theorem Cx.zzf(h:Cx N w0 F0 D w F L B ρ l a){t:Nat}{s s':SV}(hs:look l t=some s)(he:s.den ρ=s'.den ρ)(hg:s'.good F)(hb:s'.under B.length=true):Cx N w0 F0 D w F L B ρ ((t,s')::l) a:=by
 refine⟨h.size,h.nodef,λt' u e=>?_,λt' u e=>?_,h.bgood,h.fix,h.st⟩
 · simp only[look]at e;cases hk:Nat.beq t t' with
   |true=>
     rw[hk]at e;simp at e;subst e;have:=yC hk;subst this;exact⟨(h.env t s hs).1,by rw[<-he];exact(h.env t s hs).2⟩
   |false=>rw[hk]at e;simp at e;exact h.env t' u e
 · simp only[look]at e;cases hk:Nat.beq t t' with
   |true=>rw[hk]at e;simp at e;subst e;exact⟨hg,hb⟩
   |false=>rw[hk]at e;simp at e;exact h.good t' u e
theorem zAc(ρ:Nat->Nat): ∀(B:List (Option Box)) (k0 k:Nat) (b:Option Box),B[k]? =some b->(boxes ρ k0 B)[k]? =some (zH5 ρ (k0+k) b)
 | [],_,_,_,h=>by simp at h
 |b::B,k0,0,c,h=>by simp at h;subst h;rfl
 |b::B,k0,k+1,c,h=>by
   simp only[List.getElem?_cons_succ]at h;simp only[boxes,List.getElem?_cons_succ];rw[zAc ρ B (k0+1) k c h,show k0+1+k=k0+(k+1)from by omega]
theorem zjh(ρ:Nat->Nat): ∀(B:List (Option Box)) (k0:Nat),(boxes ρ k0 B).length=B.length
 | [],_=>rfl
 |b::B,k0=>by simp[boxes,zjh ρ B]
theorem zCO(ρ:Nat->Nat): ∀(B:List (Option Box)) (k0 k:Nat) (b:Option Box),boxes ρ k0 (B.set k b)=(boxes ρ k0 B).set k (zH5 ρ (k0+k) b)
 | [],_,_,_=>by simp[boxes]
 |c::B,k0,0,b=>by simp[boxes]
 |c::B,k0,k+1,b=>by simp only[List.set_cons_succ,boxes];rw[zCO ρ B (k0+1) k b,show k0+1+k=k0+(k+1)from by omega]
theorem zvb(ρ:Nat->Nat): ∀(B C:List (Option Box)) (k0:Nat),boxes ρ k0 (B++C)=boxes ρ k0 B++boxes ρ (k0+B.length) C
 | [],C,k0=>by simp[boxes]
 |b::B,C,k0=>by simp only[yI,boxes];rw[zvb ρ B C (k0+1),show k0+1+B.length=k0+(b::B).length from by simp;omega]
theorem zG6{ρ ρ':Nat->Nat}{n:Nat}(h: ∀k,k<n->ρ' k=ρ k): ∀(B:List (Option Box)) (k0:Nat),k0+B.length<=n->(∀b,some b∈B->SV.zbE n b.cells=true)->boxes ρ' k0 B=boxes ρ k0 B
 | [],_,_,_=>rfl
 |b::B,k0,hn,hb=>by
   simp only[qz3]at hn;simp only[boxes];rw[zG6 h B (k0+1) (by omega) (λc hc=>hb c (qz8 _ hc))];cases b with
   |none=>rfl
   |some b=>
     simp only[zH5,Box.sp];rw[h k0 (by omega),SV.zoW h (hb b qz7)]
theorem Cx.box(h:Cx N w0 F0 D w F L B ρ l a){k:Nat}{b:Box}(hk:B[k]? =some (some b)):w.heap[ρ k]? =some (.cells (SV.zaV ρ b.cells).toArray b.ty (0,0)):=by
 have h1:=zAc ρ B 0 k (some b) hk;rw[Nat.zero_add]at h1;have hlt:k< (boxes ρ 0 B).length:=(qz0 h1).1;exact h.st.block (i:=k) (by rw[yF hlt];exact h1)
theorem Cx.zzD(h:Cx N w0 F0 D w F L B ρ l a){k j:Nat}{b:Box}{s:SV}(hk:B[k]? =some (some b))(hj:b.cells[j]? =some s):w.cell? ⟨ρ k,j,none⟩=some (s.den ρ):=by
 have:=h.box hk;unfold World.cell?;rw[this];simp[SV.zg0,hj]
theorem Cx.zRt(h:Cx N w0 F0 D w F L B ρ l a){k:Nat}{b b':Box}(hk:B[k]? =some (some b))(_hty:b'.ty=b.ty)(hg:SV.zbs F b'.cells)(hb:SV.zbE B.length b'.cells=true){w':World}
   (hos:w'.os=w.os) (htape:w'.tape=w.tape) (hout:w'.output=w.output) (hsize:w'.heap.size=w.heap.size)
   (hb':w'.heap[ρ k]? =some (.cells (SV.zaV ρ b'.cells).toArray b'.ty (0,0))) (hne: ∀x,x≠ρ k->w'.heap[x]? =w.heap[x]?):Cx N w0 F0 D w' F L (B.set k (some b')) ρ l a:=by
 have h1:=zAc ρ B 0 k (some b) hk;rw[Nat.zero_add]at h1;have hlt:k< (boxes ρ 0 B).length:=(qz0 h1).1;have h2:(boxes ρ 0 B++L)[k]? =some (pt (ρ k) (.cells (SV.zaV ρ b.cells).toArray b.ty (0,0))):=by rw[yF hlt];exact h1
 have h3:=h.st.write h2 hos htape hout hsize hb' hne;rw[List.set_append_left _ _ hlt]at h3;refine⟨h.size,h.nodef,h.env,λt s e=>by rw[List.length_set];exact h.good t s e,λc hc=>?_,by rw[List.length_set];exact h.fix,?_⟩
 · rw[List.length_set];rcases List.mem_or_eq_of_mem_set hc with hc|hc
   · exact h.bgood c hc
   · cases hc;exact⟨hg,hb⟩
 · rw[zCO,Nat.zero_add];exact h3
theorem Cx.zGm(h:Cx N w0 F0 D w F L B ρ l a)(b:Box)(hg:SV.zbs F b.cells)(hb:SV.zbE B.length b.cells=true):
   ∃ρ':Nat->Nat,ρ' B.length=w.heap.size/\(∀k,k<B.length->ρ' k=ρ k)/\Cx N w0 F0 D (w.alloc (.cells (SV.zaV ρ b.cells).toArray b.ty (0,0))) F L (B++[some b]) ρ' l a:=by
 let ρ':Nat->Nat:=λk=>if k=B.length then w.heap.size else ρ k
 have hr: ∀k,k<B.length->ρ' k=ρ k:=λk hk=>by
   have:k≠B.length:=by omega
   simp[ρ',this]
 have hself:ρ' B.length=w.heap.size:=by simp[ρ']
 refine⟨ρ',hself,hr,h.size,h.nodef,λt s e=>?_,λt s e=>?_,λc hc=>?_,λk b e=>⟨by rw[qz5];have:=(h.fix k b e).1;omega,(hr k (h.fix k b e).1).trans (h.fix k b e).2⟩,?_⟩
 · rw[SV.zyq hr (h.good t s e).2];exact h.env t s e
 · rw[qz5];exact⟨(h.good t s e).1,SV.zqi (by simp) (h.good t s e).2⟩
 · rw[qz5];rcases List.mem_append.1 hc with hc|hc
   · exact⟨(h.bgood c hc).1,SV.zku (by simp) (h.bgood c hc).2⟩
   · cases List.mem_singleton.1 hc;exact⟨hg,SV.zku (by simp) hb⟩
 · have hst:=h.st.alloc (.cells (SV.zaV ρ b.cells).toArray b.ty (0,0));rw[zvb,zG6 hr B 0 (by omega) (λc hc=>(h.bgood c hc).2),Nat.zero_add]
   have e:boxes ρ' B.length [some b]=[pt w.heap.size (.cells (SV.zaV ρ b.cells).toArray b.ty (0,0))]:=by
     simp only[boxes,zH5,Box.sp];rw[hself,SV.zoW hr hb]
   rw[e,yE];have h1:St w0 F0 D (w.alloc (.cells (SV.zaV ρ b.cells).toArray b.ty (0,0))) F ((pt w.heap.size (.cells (SV.zaV ρ b.cells).toArray b.ty (0,0))::boxes ρ 0 B)++L):=hst;have h2:=h1.swap
   have h3:St w0 F0 D (w.alloc (.cells (SV.zaV ρ b.cells).toArray b.ty (0,0))) F ((L++[pt w.heap.size (.cells (SV.zaV ρ b.cells).toArray b.ty (0,0))])++boxes ρ 0 B):=by
     simpa [yE]using h2
   have h4:=h3.swap
   have h5:St w0 F0 D (w.alloc (.cells (SV.zaV ρ b.cells).toArray b.ty (0,0))) F ((boxes ρ 0 B++L)++[pt w.heap.size (.cells (SV.zaV ρ b.cells).toArray b.ty (0,0))]):=by
     simpa [yE]using h4
   obtain⟨x,ha,hs,hf,hd⟩:=h5.own;obtain⟨g,k,a1,a2,c,rfl⟩:=all_append.1 ha;obtain⟨g1,g2,b1,b2,c2,rfl⟩:=all_append.1 a1;obtain⟨c3,c4⟩:=Heap.zgT.1 c;refine⟨h5.os,h5.tape,h5.output,h5.size,h5.frame,h5.le,h5.new,h5.view,_,all_append.2 ⟨g1,k.join g2,b1,all_append.2 ⟨k,g2,a2,b2,c4.symm,rfl⟩,Heap.zcq.2 ⟨c3,c2⟩,rfl⟩,?_,?_,?_⟩
   · rw[<-Heap.join_comm (g:=g2) (h:=k) c4,<-Heap.join_assoc];exact hs
   · rw[<-Heap.join_comm (g:=g2) (h:=k) c4,<-Heap.join_assoc];exact hf
   · rw[<-Heap.join_comm (g:=g2) (h:=k) c4,<-Heap.join_assoc];exact hd
end
mutual
theorem SV.zGU(ρ:Nat->Nat): ∀{s:SV} {x:Value},s.plain=some x->s.den ρ=x
 | .v _,_,h=>by cases h;rfl
 | .p _ _,_,h=>by cases h;rfl
 | .agg l,x,h=>by
   simp only[SV.plain]at h;cases hl:SV.zct l with
   |none=>rw[hl]at h;cases h
   |some cs=>rw[hl]at h;cases h;simp only[SV.den];rw[SV.zms ρ hl]
 | .tup l,x,h=>by cases h
 | .ptr ..,x,h=>by cases h
 | .opt ..,x,h=>by cases h
 | .fn ..,x,h=>by cases h
 | .slc ..,x,h=>by cases h
 | .el ..,x,h=>by cases h;rfl
theorem SV.zms(ρ:Nat->Nat): ∀{l:List SV} {cs:List Value},SV.zct l=some cs->SV.zaV ρ l=cs
 | [],_,h=>by cases h;rfl
 |s::l,cs,h=>by
   simp only[SV.zct]at h;cases hs:s.plain with
   |none=>rw[hs]at h;cases h
   |some x=>
     cases hl:SV.zct l with
     |none=>rw[hs,hl]at h;cases h
     |some r=>rw[hs,hl]at h;cases h;simp only[SV.zaV];rw[SV.zGU ρ hs,SV.zms ρ hl]
end
def SV.cells:SV->Option (List SV)
 | .v (.agg cs)=>some (cs.toList.map .v)
 | .v (.tuple _)=>none
 | .v (.bool b)=>some [.v (.bool b)]
 | .v (.int k n)=>some [.v (.int k n)]
 | .v (.string s)=>some [.v (.string s)]
 | .v (.pointer a)=>some [.v (.pointer a)]
 | .v (.slice a n c)=>some [.v (.slice a n c)]
 | .v (.map r)=>some [.v (.map r)]
 | .v (.func f g h)=>some [.v (.func f g h)]
 | .v .nilFunc=>some [.v .nilFunc]
 | .v (.iface t x)=>some [.v (.iface t x)]
 | .v .nilIface=>some [.v .nilIface]
 | .v _=>none
 | .p g (.slice a n c)=>some [.p g (.slice a n c)]
 | .p _ _=>none
 | .ptr k o=>some [.ptr k o]
 | .slc k o n c=>some [.slc k o n c]
 | .el b o l=>some [.el b o l]
 | .agg l=>some l
 | .tup _=>none
 | .opt q k o=>some [.opt q k o]
 | .fn f l=>some [.fn f l]
def SV.one:SV->Bool
 | .v x=>x.oneCell'
 | .p _ x=>x.oneCell'
 | .ptr .. =>true
 | .slc .. =>true
 | .el .. =>true
 | .agg _=>false
 | .tup _=>false
 | .opt .. =>true
 | .fn .. =>true
def SV.ones:List SV->Bool
 | []=>true
 |s::l=>s.one&&SV.ones l
theorem SV.one_den(ρ:Nat->Nat){s:SV}(h:s.one=true):(s.den ρ).oneCell'=true:=by cases s<;>simp_all [SV.one,SV.den,Value.oneCell']
theorem SV.zwB(ρ:Nat->Nat): ∀{l:List SV},SV.ones l=true->∀x∈SV.zaV ρ l,x.oneCell'=true
 | [],_,x,hx=>by cases hx
 |s::l,h,x,hx=>by
   simp only[SV.ones,qz4]at h;simp only[SV.zaV]at hx;rcases yP.1 hx with e|e
   · subst e;exact SV.one_den ρ h.1
   · exact SV.zwB ρ h.2 x e
theorem SV.ztb(ρ:Nat->Nat){s:SV}{l:List SV}(h:s.cells=some l):(s.den ρ).cells.toList=SV.zaV ρ l:=by
 cases s with
 |v x=>cases x<;>simp only[SV.cells]at h<;>(try cases h)<;>simp[SV.den,Value.cells,SV.zg0,Function.comp_def]
 |p g x=>cases x<;>simp only[SV.cells]at h<;>(try cases h)<;>simp[SV.den,Value.cells,SV.zg0]
 |ptr k o=>cases h;simp[SV.den,Value.cells,SV.zg0]
 |opt q k o=>cases h;simp[SV.den,Value.cells,SV.zg0]
 |fn f l=>cases h;simp[SV.den,Value.cells,SV.zg0]
 |slc k o n c=>cases h;simp[SV.den,Value.cells,SV.zg0]
 |el b o l=>cases h;simp[SV.den,Value.cells,SV.zg0]
 |agg l'=>cases h;simp[SV.den,Value.cells]
 |tup l'=>cases h
theorem SV.cells_ok{F:Heap}{n:Nat}{s:SV}{l:List SV}(h:s.cells=some l)(hg:s.good F)(hb:s.under n=true):SV.zbs F l/\SV.zbE n l=true:=by
 cases s with
 |v x=>
   have h1: ∀u∈l,∃y,u= .v y:=by
     cases x<;>simp only[SV.cells]at h<;>(try cases h)<;>intro u hu<;>(try simp at hu)<;>first|exact⟨_,hu⟩| (obtain⟨y,_,rfl⟩:=hu;exact⟨_,rfl⟩)
   exact⟨SV.zcW.2 λu hu=>by obtain⟨y,rfl⟩:=h1 u hu;trivial,SV.zdd.2 λu hu=>by obtain⟨y,rfl⟩:=h1 u hu;rfl⟩
 |p g x=>
   cases x<;>simp only[SV.cells]at h<;>(try cases h)
   exact⟨⟨hg,trivial⟩,rfl⟩
 |ptr k o=>cases h;exact⟨⟨trivial,trivial⟩,by simpa [SV.zbE]using hb⟩
 |opt q k o=>cases h;exact⟨⟨trivial,trivial⟩,by simpa [SV.zbE]using hb⟩
 |fn f l=>cases h;exact⟨⟨hg,trivial⟩,by simpa [SV.zbE]using hb⟩
 |slc k o n c=>cases h;exact⟨⟨trivial,trivial⟩,by simpa [SV.zbE]using hb⟩
 |el b o l=>cases h;exact⟨⟨hg,trivial⟩,by simpa [SV.zbE]using hb⟩
 |agg l'=>cases h;exact⟨by simpa [SV.good]using hg,by simpa [SV.under]using hb⟩
 |tup l'=>cases h
theorem SV.zz4{F:Heap}{l:List SV}(h:SV.zbs F l)(a b:Nat):SV.zbs F ((l.drop a).take b):=
 SV.zcW.2 λs hs=>SV.zcW.1 h s (List.mem_of_mem_drop (List.mem_of_mem_take hs))
theorem SV.zw2{n:Nat}{l:List SV}(h:SV.zbE n l=true)(a b:Nat):SV.zbE n ((l.drop a).take b)=true:=
 SV.zdd.2 λs hs=>SV.zdd.1 h s (List.mem_of_mem_drop (List.mem_of_mem_take hs))
def setAt(l:List SV)(off:Nat)(cs:List SV):List SV:=l.take off++(cs++l.drop (off+cs.length))
theorem zGO{l cs:List SV}{off:Nat}{s:SV}(h:s∈setAt l off cs):s∈l\/s∈cs:=by
 unfold setAt at h;rcases List.mem_append.1 h with h|h
 · exact .inl (List.mem_of_mem_take h)
 · rcases List.mem_append.1 h with h|h
   · exact .inr h
   · exact .inl (List.mem_of_mem_drop h)
theorem zIk{F:Heap}{n:Nat}{l cs:List SV}{off:Nat}(h:SV.zbs F l/\SV.zbE n l=true)(h':SV.zbs F cs/\SV.zbE n cs=true):SV.zbs F (setAt l off cs)/\SV.zbE n (setAt l off cs)=true:=
 ⟨SV.zcW.2 λs hs=>(zGO hs).elim (SV.zcW.1 h.1 s) (SV.zcW.1 h'.1 s),SV.zdd.2 λs hs=>(zGO hs).elim (SV.zdd.1 h.2 s) (SV.zdd.1 h'.2 s)⟩
def zqo(P:Program):Sem Next->Option Value
 | .pure (.value x)=>some x
 | .program k=>zqo P (k P)
 |_=>none
theorem zAx{P:Program}: ∀{s:Sem Next} {x:Value},zqo P s=some x->∀w,s.run P w= .ok (.value x) w
 | .pure n,x,h,w=>by cases n<;>simp only[zqo]at h<;>cases h;rfl
 | .program k,x,h,w=>by simp only[zqo]at h;exact zAx h w
def ρof(l:Env)(x:Operand):Value:=match ov l x with
 |some s=>match s.plain with|some y=>y|none=>undef
 |none=>undef
def allPlain(l:Env):List Operand->Bool
 | []=>true
 |x::r=>(match ov l x with|some s=>s.plain.isSome|none=>false)&&allPlain l r
def zgO(P:Program)(t:TypeId):Option Bool:=match P.underlying t with
 |some (.struct _)=>some true
 |some (.array _ _)=>some true
 |some _=>some false
 |none=>none
def zk2(P:Program)(t:TypeId)(f:Nat):Option (TypeId×Nat):=match P.underlying t with
 |some (.struct fs)=>match fs[f]? with|some d=>some (d.type,d.offset)|none=>none
 |_=>none
def zHN(P:Program)(t:TypeId):Option Value:=match P.info? t with|some i=>i.zero|none=>none
def zuN(P:Program):List Field->Bool
 | []=>true
 |f::r=>(match P.info? f.type with|some _=>true|none=>false)&&zuN P r
def zlA(P:Program)(t:TypeId):Bool:=match P.underlying t with
 |some (.struct fs)=>zuN P fs.toList
 |_=>false
def zmQ(P:Program)(t:TypeId):Option TypeId:=match P.underlying t with
 |some (.slice e)=>some e
 |_=>none
def zcm(P:Program)(t:TypeId):Option Nat:=match P.info? t with|some i=>some i.size|none=>none
def zo4(l:Env):List (Nat×Operand)->Option (List (Nat×SV))
 | []=>some []
 | (i,x)::r=>match ov l x,zo4 l r with|some s,some ss=>some ((i,s)::ss)|_,_=>none
def zeS(place:Nat->Option (Nat×Nat))(cells:List SV):List (Nat×SV)->Option (List SV)
 | []=>some cells
 | (i,s)::r=>match place i,s.cells with
   |some (off,n),some cs=>bif (Nat.beq cs.length n&&Nat.ble (off+cs.length) cells.length)then zeS place (setAt cells off cs) r else none
   |_,_=>none
def zyc(P:Program)(t:TypeId)(i:Nat):Option (Nat×Nat):=match zk2 P t i with
 |some (ft,fo)=>match zcm P ft with|some n=>some (fo,n)|none=>none
 |none=>none
def zGe(n:Nat):Nat->List (Nat×SV)->Option (List SV)
 |_,[]=>some []
 |k,(i,s)::r=>match s.cells,zGe n (k+1) r with
   |some cs,some rest=>bif (Nat.beq i k&&Nat.beq cs.length n)then some (cs++rest)else none
   |_,_=>none
def zrX(P:Program)(l:Env)(B:List (Option Box)):Op->Option SV
 | .move x=>ov l x
 | .assign x=>ov l x
 | .pick c x y=>match ov l c with
   |some (.v (.bool true))=>ov l x
   |some (.v (.bool false))=>ov l y
   |_=>none
 | .extract x i=>match ov l x with
   |some (.tup ss)=>ss[i]?
   |_=>none
 | .nilCheck x=>match ov l x with|some (.ptr k o)=>some (.ptr k o)|some (.v (.pointer (some a)))=>some (.v (.pointer (some a)))|some (.el eb eo ss)=>some (.el eb eo ss)|_=>none
 | .load t x=>match ov l x with
   |some (.el _ _ ss)=>match zgO P t,zcm P t with
     |some true,some n=>bif Nat.ble n ss.length then some (.agg (ss.take n))else none
     |some false,_=>ss[0]?
     |_,_=>none
   |some (.ptr k off)=>match B[k]? with
     |some (some b)=>match zgO P t,zcm P t with
      |some true,some n=>bif Nat.ble (off+n) b.cells.length then some (.agg ((b.cells.drop off).take n))else none
      |some false,_=>b.cells[off]?
      |_,_=>none
     |_=>none
   |_=>none
 | .fieldAddr t x f=>match ov l x,zk2 P t f with
   |some (.ptr k off),some (ft,fo)=>match zcm P ft with
     |some (_+1)=>some (.ptr k (off+fo))
     |_=>none
   |some (.el eb eo ss),some (ft,fo)=>match zcm P ft with
     |some (_+1)=>some (.el eb (eo+fo) (ss.drop fo))
     |_=>none
   |_,_=>none
 | .build t ps=>match P.info? t,zo4 l ps.toList with
   |some i,some ss=>match i.zero,zlA P t with
     |some z,true=>match zeS (zyc P t) (z.cells.toList.map .v) ss with|some cs=>some (.agg cs)|none=>none
     |_,_=>none
   |_,_=>none
 | .field t x f=>match ov l x,zk2 P t f with
   |some (.agg cs),some (ft,fo)=>match zgO P ft,zcm P ft with
     |some true,some n=>some (.agg ((cs.drop fo).take n))
     |some false,_=>cs[fo]?
     |_,_=>none
   |_,_=>none
 |_=>none
def zp4(P:Program)(l:Env)(B:List (Option Box)):Op->Option (Option SV×List (Option Box))
 | .alloc e=>match P.info? e with
   |some i=>match i.zero with|some z=>some (some (.ptr B.length 0),B++[some ⟨e,z.cells.toList.map .v⟩])|none=>none
   |none=>none
 | .box e x=>match ov l x with
   |some s=>match s.cells with|some cs=>some (some (.ptr B.length 0),B++[some ⟨e,cs⟩])|none=>none
   |none=>none
 | .buildSlice t len ps=>match zmQ P t,zo4 l ps.toList with
   |some e,some ss=>match zcm P e with
     |some (n+1)=>match zGe (n+1) 0 ss with
      |some cs=>bif (Nat.beq ss.length len&&Nat.ble (len*(n+1)) 16777216&&Nat.ble 1 (len*(n+1))&&(match zHN P e with|some z=>Nat.beq z.cells.size (n+1)|none=>false))then some (some (.slc B.length 0 len len),B++[some ⟨e,cs⟩])else none
      |none=>none
     |_=>none
   |_,_=>none
 | .store t x y=>match ov l x,ov l y with
   |some (.ptr k off),some s=>match B[k]?,s.cells,zcm P t with
     |some (some b),some cs,some n=>bif (Nat.beq cs.length n&&Nat.ble (off+cs.length) b.cells.length&&SV.ones cs)then some (none,B.set k (some ⟨b.ty,setAt b.cells off cs⟩))else none
     |_,_,_=>none
   |_,_=>none
 |_=>none
def strs(l:Env):Op->Option Value
 | .binOp op _ x y _=>match op,ov l x,ov l y with
   | .eql,some (.v (.string s)),some (.v (.string t))=>some (.bool (s.data.toList==t.data.toList))
   | .neq,some (.v (.string s)),some (.v (.string t))=>some (.bool (!(s.data.toList==t.data.toList)))
   | .lss,some (.v (.string s)),some (.v (.string t))=>some (.bool (Op.bytesLess s.data.toList t.data.toList))
   | .gtr,some (.v (.string s)),some (.v (.string t))=>some (.bool (!(Op.bytesLess s.data.toList t.data.toList||s.data.toList==t.data.toList)))
   | .leq,some (.v (.string s)),some (.v (.string t))=>some (.bool (Op.bytesLess s.data.toList t.data.toList||s.data.toList==t.data.toList))
   | .geq,some (.v (.string s)),some (.v (.string t))=>some (.bool (!(Op.bytesLess s.data.toList t.data.toList)))
   |_,_,_=>none
 |_=>none
def eqF(P:Program)(xs ys:List SV):List Field->Option Bool
 | []=>some true
 |f::r=>bif f.name== "_" then none else match eqF P xs ys r with
   |none=>none
   |some c=>match P.underlying f.type,xs[f.offset]?,ys[f.offset]? with
     |some .bool,some (.v (.bool x)),some (.v (.bool y))=>some ((x==y)&&c)
     |some (.int _),some (.v (.int k x)),some (.v (.int k' y))=>bif decide (k=k')then some ((x==y)&&c)else none
     |some .string,some (.v (.string x)),some (.v (.string y))=>some ((x.data.toList==y.data.toList)&&c)
     |_,_,_=>none
def eqS(P:Program)(l:Env):Op->Option Value
 | .binOp op t x y _=>match ov l x,ov l y,P.underlying t with
   |some (.agg xs),some (.agg ys),some (.struct fs)=>match eqF P xs ys fs.toList with
     |some b=>bif !P.stoodInHeld t&& !P.eqGuardType P.depth t then(match op with| .eql=>some (.bool b)| .neq=>some (.bool (!b))|_=>none)else none
     |none=>none
   |_,_,_=>none
 |_=>none
def zIa:Op->Bool
 | .select .. =>true
 |_=>false
def quiet(P:Program)(l:Env)(B:List (Option Box))(o:Oper):Option SV:=
 match zrX P l B o.op with
 |some s=>some s
 |none=>match strs l o.op with
   |some x=>some (.v x)
   |none=>match eqS P l o.op with
     |some x=>some (.v x)
     |none=>bif (allPlain l o.op.operands.toList&& !zIa o.op)then(match zqo P (execOp (ρof l) o)with|some x=>some (.v x)|none=>none)else none
theorem zcV{α:Type}{c:Bool}{x y:α}(h:(bif c then some x else none)=some y):c=true/\x=y:=by
 cases c
 · simp at h
 · simp at h;exact⟨rfl,h⟩
section
variable {P:Program} {N:Nat} {w0:World} {F0:Heap} {D:Own} {w:World} {F:Heap} {L:List SP} {B B':List (Option Box)} {ρ:Nat->Nat} {l:Env} {a:Act} {o:Oper}
def Yields(P:Program)(o:Oper)(a:Act)(w:World)(ρ':Nat->Nat)(w':World):Option SV->Prop
 |some s=>(execOp a.eval o).run P w= .ok (.value (s.den ρ')) w'
 |none=>(execOp a.eval o).run P w= .ok .skip w'
def Fine(F:Heap)(n:Nat):Option SV->Prop
 |some s=>s.good F/\s.under n=true
 |none=>True
theorem zt0(t:TypeId)(v:Value)(w:World):(newVar t v).run P w= .ok ⟨w.heap.size,0,none⟩ (w.alloc (.cells v.cells t (0,0))):=rfl
theorem zFr(t:TypeId)(cs:Array Value)(w:World):(newRow t cs).run P w= .ok ⟨w.heap.size,0,none⟩ (w.alloc (.cells cs t (0,0))):=rfl
theorem zfU{t:TypeId}{i:TypeInfo}{z:Value}(hi:P.info? t=some i)(hz:i.zero=some z)(w:World):(zeroValue t).run P w= .ok z w:=by
 simp[zeroValue,typeInfo,hi,hz]
theorem zfZ{t:TypeId}{b:Bool}(h:zgO P t=some b)(w:World):(isAgg t).run P w= .ok b w:=by
 unfold zgO at h;cases hu:P.underlying t with
 |none=>rw[hu]at h;cases h
 |some d=>
   rw[hu]at h;unfold isAgg;rw[Sem.run_bind,run_underlying hu w];cases d<;>simp_all
theorem zco{t:TypeId}{n:Nat}(h:zcm P t=some n)(w:World):(sizeOf t).run P w= .ok n w:=by
 unfold zcm at h;cases hi:P.info? t with
 |none=>rw[hi]at h;cases h
 |some i=>rw[hi]at h;cases h;simp[sizeOf,typeInfo,hi]
theorem zgN(b o j:Nat):(⟨b,o,none⟩:Addr).add j=⟨b,o+j,none⟩:=by unfold Addr.add;split<;>simp_all
theorem zkf(b:Nat): ∀(vs:List Value) (o:Nat) (w:World),(w.setCells b o vs).os=w.os/\(w.setCells b o vs).tape=w.tape/\(w.setCells b o vs).output=w.output/\(w.setCells b o vs).heap.size=w.heap.size/\∀x,x≠b->(w.setCells b o vs).heap[x]? =w.heap[x]?
 | [],_,_=>⟨rfl,rfl,rfl,rfl,λ_ _=>rfl⟩
 |v::r,o,w=>by
   obtain⟨h1,h2,h3,h4,h5⟩:=zkf b r (o+1) (w.setCell ⟨b,o,none⟩ v);exact⟨h1,h2,h3,h4.trans (zH4 _ _ _),λx hx=>(h5 x hx).trans (Below.heap_setCell w ⟨b,o,none⟩ v x hx)⟩
theorem zhI(b:Nat){t:TypeId}: ∀(vs:List Value) (o:Nat) (w:World) (c:Array Value),w.heap[b]? =some (.cells c t (0,0))->o+vs.length<=c.size->
   (w.setCells b o vs).heap[b]? =some (.cells (c.toList.take o++(vs++c.toList.drop (o+vs.length))).toArray t (0,0))
 | [],o,w,c,h,hl=>by simp[World.setCells,h,List.take_append_drop]
 |v::r,o,w,c,h,hl=>by
   simp only[qz3]at hl;have h1:=zIG w b o v h;have h2:=zhI b r (o+1) (w.setCell ⟨b,o,none⟩ v) (c.setIfInBounds o v) h1 (by simp;omega)
   show(World.setCells (w.setCell ⟨b,o,none⟩ v) b (o+1) r).heap[b]? =_;rw[h2];congr 3;apply List.ext_getElem?;intro i;simp only[List.getElem?_append,List.getElem?_take,List.getElem?_drop,List.length_take,qz3,Array.toList_setIfInBounds,yR,List.length_set,Array.length_toList,List.length_drop];have hlen:c.toList.length=c.size:=Array.length_toList;by_cases h0:i<o
   · have e1:i<o+1:=by omega
     have e2:o≠i:=by omega
     have e3:i<min (o+1) c.size:=by omega
     have e4:i<min o c.size:=by omega
     simp[e1,e2,e3,e4,h0]
   · by_cases h1:i=o
     ·subst h1;have e1:i<min (i+1) c.size:=by omega
      have e2: ¬i<min i c.size:=by omega
      have e3:min i c.size=i:=by omega
      have e4:i<c.size:=by omega
      simp[e1,e2,e3,e4]
     ·have e1: ¬i<min (o+1) c.size:=by omega
      have e2: ¬i<min o c.size:=by omega
      have e3:min (o+1) c.size=o+1:=by omega
      have e4:min o c.size=o:=by omega
      simp only[e1,e2,e3,e4,yA];obtain⟨j,rfl⟩: ∃j,i=o+1+j:=⟨i - (o+1),by omega⟩
      have e5:o+1+j - (o+1)=j:=by omega
      have e6:o+1+j -o=j+1:=by omega
      rw[e5,e6];have f1: ¬o+1+j<o+1:=by omega
      have f2: ¬o+1+j<o:=by omega
      by_cases h2:j<r.length
      ·simp[h2,f1,f2]
      ·have e8:o≠o+(r.length+1)+(j -r.length):=by omega
       have e9:o+1+r.length+(j -r.length)=o+(r.length+1)+(j+1 - (r.length+1)):=by omega
       simp[h2,f1,f2,e8,e9]
theorem zxJ(ρ:Nat->Nat)(l m:List SV):SV.zaV ρ (l++m)=SV.zaV ρ l++SV.zaV ρ m:=by simp[SV.zg0]
theorem zCC(ρ:Nat->Nat)(l:List SV)(n:Nat):SV.zaV ρ (l.take n)=(SV.zaV ρ l).take n:=by simp[SV.zg0]
theorem zC0(ρ:Nat->Nat)(l:List SV)(n:Nat):SV.zaV ρ (l.drop n)=(SV.zaV ρ l).drop n:=by simp[SV.zg0]
theorem zdg(ρ:Nat->Nat)(l:List SV):(SV.zaV ρ l).length=l.length:=by simp[SV.zg0]
theorem zoP(ρ:Nat->Nat)(l:List SV)(j:Nat):(SV.zaV ρ l)[j]? =(l[j]?).map (SV.den ρ):=by simp[SV.zg0]
theorem zDV: ∀(n:Nat) {l:List SV} {cs:List Value},SV.zct l=some cs->SV.zct (l.drop n)=some (cs.drop n)
 |0,_,_,h=>by simpa using h
 |n+1,[],cs,h=>by cases h;rfl
 |n+1,s::l,cs,h=>by
   simp only[SV.zct]at h;cases hs:s.plain with
   |none=>rw[hs]at h;cases h
   |some x=>
     cases hl:SV.zct l with
     |none=>rw[hs,hl]at h;cases h
     |some r=>rw[hs,hl]at h;cases h;exact zDV n hl
theorem zz5(h:Cx N w0 F0 D w F L B ρ l a): ∀{ps:List (Nat×Operand)} {ss:List (Nat×SV)},zo4 l ps=some ss->
   ps.map (λ(i,x)=>(i,a.eval x))=ss.map (λ(i,s)=>(i,s.den ρ))/\∀p∈ss,p.2.good F/\p.2.under B.length=true
 | [],ss,e=>by cases e;exact⟨rfl,λ_ hp=>by cases hp⟩
 | (i,x)::r,ss,e=>by
   simp only[zo4]at e;cases hx:ov l x with
   |none=>rw[hx]at e;cases e
   |some s=>
     cases hr:zo4 l r with
     |none=>rw[hx,hr]at e;cases e
     |some ss'=>
      rw[hx,hr]at e;cases e;obtain⟨h1,h2⟩:=zz5 h hr;refine⟨by simp only[List.map_cons,h.eval hx,h1],λp hp=>?_⟩;rcases yP.1 hp with e1|e1
      ·rw[e1];exact h.zjE hx
      ·exact h2 p e1
theorem foldl_set: ∀(vs:List Value) (off j0:Nat) (c:Array Value),off+j0+vs.length<=c.size->
   (vs.zipIdx j0).foldl (λcs (x:Value×Nat)=>cs.setIfInBounds (off+x.2) x.1) c=(c.toList.take (off+j0)++(vs++c.toList.drop (off+j0+vs.length))).toArray
 | [],off,j0,c,_=>by simp[List.take_append_drop]
 |v::r,off,j0,c,h=>by
   simp only[qz3]at h;rw[List.zipIdx_cons,List.foldl_cons,foldl_set r off (j0+1) _ (by simp;omega)]
   have hlen:c.toList.length=c.size:=Array.length_toList;congr 1;apply List.ext_getElem?;intro i;simp only[List.getElem?_append,List.getElem?_take,List.getElem?_drop,List.length_take,qz3,Array.toList_setIfInBounds,yR,List.length_set];have e3:min (off+(j0+1)) c.size=off+j0+1:=by omega
   have e4:min (off+j0) c.size=off+j0:=by omega
   rw[hlen,e3,e4];by_cases h0:i<off+j0
   · have e1:i<off+j0+1:=by omega
     have e2:off+j0≠i:=by omega
     simp[e1,e2,h0,show i<off+(j0+1) by omega]
   · by_cases h1:i=off+j0
     ·subst h1;simp[show off+j0<off+(j0+1) by omega,show off+j0<c.size by omega]
     ·have f1: ¬i<off+j0+1:=by omega
      simp only[h0,f1,yA];obtain⟨j,rfl⟩: ∃j,i=off+j0+1+j:=⟨i - (off+j0+1),by omega⟩
      have e5:off+j0+1+j - (off+j0+1)=j:=by omega
      have e6:off+j0+1+j - (off+j0)=j+1:=by omega
      rw[e5,e6];by_cases h2:j<r.length
      ·simp[h2]
      ·have e8:off+j0≠off+(j0+1)+r.length+(j -r.length):=by omega
       have e9:off+(j0+1)+r.length+(j -r.length)=off+j0+(r.length+1)+(j+1 - (r.length+1)):=by omega
       simp[h2,e9];intro e;omega
theorem zJ4{place:Nat->Option (Nat×Nat)}{F:Heap}{n:Nat}(ρ:Nat->Nat): ∀{ss:List (Nat×SV)} {cells cs:List SV},zeS place cells ss=some cs->(SV.zbs F cells/\SV.zbE n cells=true)->
   (∀p∈ss,p.2.good F/\p.2.under n=true)->
   Instr.fill place (SV.zaV ρ cells).toArray (ss.map λ(i,s)=>(i,s.den ρ))=some (SV.zaV ρ cs).toArray/\SV.zbs F cs/\SV.zbE n cs=true
 | [],cells,cs,e,h,_=>by cases e;exact⟨rfl,h⟩
 | (i,s)::r,cells,cs,e,h,hp=>by
   simp only[zeS]at e;cases hpl:place i with
   |none=>rw[hpl]at e;cases e
   |some on=>
     obtain⟨off,m⟩:=on;cases hc:s.cells with
     |none=>rw[hpl,hc]at e;cases e
     |some sc=>
      rw[hpl,hc]at e;simp only at e
      obtain⟨hcond,e⟩:(Nat.beq sc.length m&&Nat.ble (off+sc.length) cells.length)=true/\zeS place (setAt cells off sc) r=some cs:=by
       cases hb:(Nat.beq sc.length m&&Nat.ble (off+sc.length) cells.length)with
       |true=>rw[hb]at e;exact⟨rfl,e⟩
       |false=>rw[hb]at e;cases e
      simp only[qz4]at hcond;have h1:=yC hcond.1;have h2:=yD hcond.2;have hs:=hp (i,s) qz7;have hden:=SV.ztb ρ hc;have hsz:(s.den ρ).cells.size=sc.length:=by rw[<-Array.length_toList,hden,zdg]
      obtain⟨q1,q2⟩:=zJ4 ρ e (zIk h (SV.cells_ok hc hs.1 hs.2)) (λp hp'=>hp p (qz8 _ hp'));refine⟨?_,q2⟩;simp only[List.map_cons,Instr.fill,hpl]
      have hno: ¬((s.den ρ).cells.size≠m||decide (off+(s.den ρ).cells.size>(SV.zaV ρ cells).toArray.size))=true:=by
       simp[hsz,h1,zdg];omega
      rw[yK hno]
      have hf:(s.den ρ).cells.zipIdx.foldl (λcs (x:Value×Nat)=>cs.setIfInBounds (off+x.2) x.1) (SV.zaV ρ cells).toArray=(SV.zaV ρ (setAt cells off sc)).toArray:=by
       rw[<-Array.foldl_toList,Array.toList_zipIdx,hden,foldl_set _ _ _ _ (by simp[zdg];omega)]
       simp[setAt,zxJ,zCC,zC0,zdg]
      rw[hf];exact q1
theorem zAF: ∀{fs:List Field},zuN P fs=true->∀f∈fs,∃i,P.info? f.type=some i
 | [],_,f,hf=>by cases hf
 |g::r,h,f,hf=>by
   simp only[zuN,qz4]at h;rcases yP.1 hf with e|e
   · subst e;cases hi:P.info? f.type with
     |none=>rw[hi]at h;exact absurd h.1 (by simp)
     |some i=>exact⟨i,rfl⟩
   · exact zAF h.2 f e
theorem zDI(w:World): ∀{fs:List Field},zuN P fs=true->(fs.mapM (m:=Sem) λf=>do pure (f.offset,<-sizeOf f.type)).run P w= .ok (fs.map λf=>(f.offset,P.cellsOf f.type)) w
 | [],_=>rfl
 |f::r,h=>by
   simp only[zuN,qz4]at h;have ih:=zDI w h.2;obtain⟨i,hi⟩:=zAF (fs:=[f]) (by simp only[zuN,qz4];exact⟨h.1,trivial⟩) f qz7
   have hsz:(sizeOf f.type).run P w= .ok i.size w:=zco (by unfold zcm;rw[hi]) w
   rw[List.mapM_cons];simp only[Sem.run_bind,hsz,ih,Result.andThen_ok,Sem.run_pure];simp[hi,Program.cellsOf]
theorem zEC{t:TypeId}{fs:Array Field}(hu:P.underlying t=some (.struct fs))(hst:zlA P t=true)(w:World):
   ∃places:Array (Nat×Nat),(fs.mapM (m:=Sem) λf=>do pure (f.offset,<-sizeOf f.type)).run P w= .ok places w/\(λi=>places[i]?)=zyc P t:=by
 unfold zlA at hst;rw[hu]at hst;simp only at hst;refine⟨(fs.toList.map λf=>(f.offset,P.cellsOf f.type)).toArray,?_,?_⟩
 · rw[Array.mapM_eq_mapM_toList];simp only[Sem.run_map,zDI w hst,Result.andThen_ok]
 · funext i;unfold zyc zk2;rw[hu];simp only[List.getElem?_toArray,List.getElem?_map,Array.getElem?_toList];cases hf:fs[i]? with
   |none=>rfl
   |some f=>
     obtain⟨q,hq⟩:=zAF hst f (by have:=Array.mem_of_getElem? hf;simpa using this)
     simp[zcm,hq,Program.cellsOf]
theorem zIx{n:Nat}{F:Heap}{m:Nat}(ρ:Nat->Nat): ∀{ss:List (Nat×SV)} {k:Nat} {cs:List SV} (c:Array Value),zGe n k ss=some cs->(k+ss.length)*n<=c.size->(∀p∈ss,p.2.good F/\p.2.under m=true)->
   Instr.fill (λi=>some (i*n,n)) c (ss.map λ(i,s)=>(i,s.den ρ))=some (c.toList.take (k*n)++(SV.zaV ρ cs++c.toList.drop ((k+ss.length)*n))).toArray/\cs.length=ss.length*n/\SV.zbs F cs/\SV.zbE m cs=true
 | [],k,cs,c,e,h,_=>by cases e;simp[Instr.fill,SV.zaV,SV.zbs,SV.zbE,List.take_append_drop]
 | (i,s)::r,k,cs,c,e,h,hp=>by
   simp only[zGe]at e;cases hc:s.cells with
   |none=>rw[hc]at e;cases e
   |some sc=>
     cases hr:zGe n (k+1) r with
     |none=>rw[hc,hr]at e;cases e
     |some rest=>
      rw[hc,hr]at e;obtain⟨hcond,e⟩:=zcV e;subst e;simp only[qz4]at hcond;have h1:=yC hcond.1;have h2:=yC hcond.2;subst h1;have hs:=hp (i,s) qz7;have hden:=SV.ztb ρ hc;have hsz:(s.den ρ).cells.size=n:=by rw[<-Array.length_toList,hden,zdg,h2]
      simp only[qz3]at h
      have hin:i*n+n<=c.size:=by
       have:(i+(r.length+1))*n=i*n+n+r.length*n:=by rw[Nat.add_mul,Nat.add_mul];omega
       omega
      have hf:(s.den ρ).cells.zipIdx.foldl (λcs (x:Value×Nat)=>cs.setIfInBounds (i*n+x.2) x.1) c=(c.toList.take (i*n)++(SV.zaV ρ sc++c.toList.drop (i*n+n))).toArray:=by
       rw[<-Array.foldl_toList,Array.toList_zipIdx,hden,foldl_set _ _ _ _ (by simp[zdg];omega)]
       simp[zdg,h2]
      have hsz2:(c.toList.take (i*n)++(SV.zaV ρ sc++c.toList.drop (i*n+n))).toArray.size=c.size:=by
       simp[zdg,h2];omega
      obtain⟨q1,q2,q3⟩:=zIx ρ (k:=i+1) (c.toList.take (i*n)++(SV.zaV ρ sc++c.toList.drop (i*n+n))).toArray hr (by rw[hsz2];simp only[Nat.add_mul]at h⊢;omega) (λp hp'=>hp p (qz8 _ hp'))
      obtain⟨g1,g2⟩:=SV.cells_ok hc hs.1 hs.2;refine⟨?_,by simp only[qz5,qz3,h2,q2,Nat.add_mul];omega,SV.zcW.2 λx hx=>?_,SV.zdd.2 λx hx=>?_⟩
      ·simp only[List.map_cons,Instr.fill]
       have hno: ¬((s.den ρ).cells.size≠n||decide (i*n+(s.den ρ).cells.size>c.size))=true:=by
        simp[hsz];omega
       rw[yK hno,hf,q1];congr 2;have e1:(i+1)*n=i*n+n:=by rw[Nat.add_mul];omega
       have e2:(i+1+r.length)*n=i*n+n+r.length*n:=by rw[Nat.add_mul,Nat.add_mul];omega
       have e3:(i+(r.length+1))*n=i*n+n+r.length*n:=by rw[Nat.add_mul,Nat.add_mul];omega
       have l1:(c.toList.take (i*n)).length=i*n:=by simp;omega
       have l2:(SV.zaV ρ sc).length=n:=by rw[zdg,h2]
       rw[e1,e2,qz3,e3,zxJ];simp only[List.take_append,List.drop_append,l1,l2,yE,List.drop_drop];have f1:i*n+n -i*n=n:=by omega
       have f2:i*n+n -i*n -n=0:=by omega
       have f3:i*n+n+r.length*n -i*n -n=r.length*n:=by omega
       simp only[f1,f2,f3,Nat.sub_self,List.take_zero,List.append_nil];rw[List.take_of_length_le (show(c.toList.take (i*n)).length<=i*n+n by omega),List.take_of_length_le (show(SV.zaV ρ sc).length<=n by omega),List.drop_of_length_le (show(c.toList.take (i*n)).length<=i*n+n+r.length*n by omega),List.drop_of_length_le (show(SV.zaV ρ sc).length<=i*n+n+r.length*n -i*n by omega)];simp
      ·rcases List.mem_append.1 hx with hx|hx
       ·exact SV.zcW.1 g1 x hx
       ·exact SV.zcW.1 q3.1 x hx
      ·rcases List.mem_append.1 hx with hx|hx
       ·exact SV.zdd.1 g2 x hx
       ·exact SV.zdd.1 q3.2 x hx
theorem zPy{s0:SV}(h:Cx N w0 F0 D w F L B ρ l a)(e:zrX P l B o.op=some s0):
   (execOp a.eval o).run P w= .ok (.value (s0.den ρ)) w/\s0.good F/\s0.under B.length=true:=by
 have fwd: ∀{x:Operand} {s:SV},ov l x=some s->execOp a.eval o=Sem.pure (.value (a.eval x))->(execOp a.eval o).run P w= .ok (.value (s.den ρ)) w/\s.good F/\s.under B.length=true:=
   λ{x s} hx hop=>⟨by rw[hop,h.eval hx];rfl,h.zjE hx⟩
 cases hop:o.op with
 |move x=>rw[hop]at e;simp only[zrX]at e;exact fwd e (by unfold execOp;rw[hop];rfl)
 |assign x=>rw[hop]at e;simp only[zrX]at e;exact fwd e (by unfold execOp;rw[hop];rfl)
 |pick c x y=>
   rw[hop]at e;simp only[zrX]at e;cases hc:ov l c with
   |none=>rw[hc]at e;cases e
   |some sc=>
     rw[hc]at e;cases sc with
     |v cv=>
      cases cv with
      |bool b=>
       have hcv:a.eval c= .bool b:=h.eval hc;cases b with
       |true=>
        simp only at e;cases hx:ov l x with
        |none=>rw[hx]at e;cases e
        |some s=>rw[hx]at e;cases e;exact fwd hx (by unfold execOp;rw[hop];simp only[hcv];rfl)
       |false=>
        simp only at e;cases hx:ov l y with
        |none=>rw[hx]at e;cases e
        |some s=>rw[hx]at e;cases e;exact fwd hx (by unfold execOp;rw[hop];simp only[hcv];rfl)
      |_=>cases e
     |_=>cases e
 |extract x i=>
   rw[hop]at e;simp only[zrX]at e;cases hx:ov l x with
   |none=>rw[hx]at e;cases e
   |some sx=>
     rw[hx]at e;cases sx with
     |tup ss=>
      simp only at e;cases hs:ss[i]? with
      |none=>rw[hs]at e;cases e
      |some s=>
       rw[hs]at e;have e':=yS e;subst e';have hev:a.eval x= .tuple (SV.zaV ρ ss).toArray:=by rw[h.eval hx];rfl
       have hmem:s∈ss:=List.mem_of_getElem? hs;have hg:=h.zjE hx;refine⟨?_,SV.zcW.1 (by simpa [SV.good]using hg.1) s hmem,SV.zdd.1 (by simpa [SV.under]using hg.2) s hmem⟩;show(execOp a.eval o).run P w=_;unfold execOp;rw[hop];simp[hev,Instr.extract,zoP,hs]
     |_=>cases e
 |nilCheck x=>
   rw[hop]at e;simp only[zrX]at e;cases hx:ov l x with
   |none=>rw[hx]at e;cases e
   |some sx=>
     rw[hx]at e;cases sx with
     |ptr k off=>
      cases e;have hev:=h.eval hx;refine⟨?_,h.zjE hx⟩;show(execOp a.eval o).run P w=_;unfold execOp;rw[hop];simp only[hev,SV.den];rfl
     |v xv=>
      cases xv with
      |pointer ao=>
       cases ao with
       |none=>cases e
       |some ad=>
        cases e;have hev:=h.eval hx;refine⟨?_,h.zjE hx⟩;show(execOp a.eval o).run P w=_;unfold execOp;rw[hop];simp only[hev,SV.den];rfl
      |_=>cases e
     |el eb eo ss=>
      cases e;have hev:=h.eval hx;refine⟨?_,h.zjE hx⟩;show(execOp a.eval o).run P w=_;unfold execOp;rw[hop];simp only[hev,SV.den];rfl
     |_=>cases e
 |load t x=>
   rw[hop]at e;simp only[zrX]at e;cases hx:ov l x with
   |none=>rw[hx]at e;cases e
   |some sx=>
     rw[hx]at e;cases sx with
     |el eb eo ss=>
      simp only at e;have hev:a.eval x= .pointer (some ⟨eb,eo,none⟩):=h.eval hx;have hgx:=h.zjE hx;obtain⟨hg1,cs,hp,hcf⟩:SV.zbs F ss/\∃cs,SV.zct ss=some cs/\zoo F eb eo cs:=by simpa [SV.good]using hgx.1
      have hu1:SV.zbE B.length ss=true:=by simpa [SV.under]using hgx.2
      have hden:=SV.zms ρ hp;have hcell: ∀j s,ss[j]? =some s->w.cell? ⟨eb,eo+j,none⟩=some (s.den ρ):=λj s hj=>ziV h.st.view (hcf j _ (by rw[<-hden,zoP,hj];rfl))
      cases hr:zgO P t with
      |none=>rw[hr]at e;cases hs:zcm P t<;>rw[hs]at e<;>cases e
      |some row=>
       rw[hr]at e;cases row with
       |true=>
        cases hs:zcm P t with
        |none=>rw[hs]at e;cases e
        |some n=>
         rw[hs]at e;simp only at e;obtain⟨hle,he⟩:=zcV e;cases he;have hle:=yD hle;have gt:=SV.zz4 hg1 0 n;have ut:=SV.zw2 hu1 0 n;rw[List.drop_zero]at gt ut;refine⟨?_,by simpa [SV.good]using gt,by simpa [SV.under]using ut⟩;show(execOp a.eval o).run P w=_;unfold execOp;rw[hop]
         have hl:(loadCells ⟨eb,eo,none⟩ n).run P w= .ok (SV.zaV ρ (ss.take n)).toArray w:=by
          have:=run_loadCells_list (P:=P) w ⟨eb,eo,none⟩ (SV.zaV ρ (ss.take n)) (λj v hv=>by
           rw[zgN];rw[zoP,List.getElem?_take]at hv;split at hv
           ·cases hj:ss[j]? with
            |none=>rw[hj]at hv;cases hv
            |some s=>rw[hj]at hv;cases hv;exact hcell j s hj
           ·cases hv)
          rw[zdg]at this;have hn:(ss.take n).length=n:=by simp;omega
          rwa [hn]at this
         simp[hev,Instr.loadAt,Instr.sureAddr,loadVar,Sem.run_bind,zfZ hr,zco hs,hl,SV.den]
       |false=>
        cases hs:ss[0]? with
        |none=>rw[hs]at e;cases hs2:zcm P t<;>rw[hs2]at e<;>cases e
        |some s=>
         have e:some s=some s0:=by cases hs2:zcm P t<;>rw[hs2,hs]at e<;>exact e
         have e':=yS e;subst e';have hmem:s∈ss:=List.mem_of_getElem? hs;refine⟨?_,SV.zcW.1 hg1 s hmem,SV.zdd.1 hu1 s hmem⟩;show(execOp a.eval o).run P w=_;unfold execOp;rw[hop];have h0:w.cell? ⟨eb,eo,none⟩=some (s.den ρ):=hcell 0 s hs;simp[hev,Instr.loadAt,Instr.sureAddr,loadVar,Sem.run_bind,zfZ hr,h0]
     |ptr k off=>
      simp only at e;have hev:a.eval x= .pointer (some ⟨ρ k,off,none⟩):=h.eval hx;cases hk:B[k]? with
      |none=>rw[hk]at e;cases e
      |some ob=>
      cases ob with
      |none=>rw[hk]at e;cases e
      |some b=>
       rw[hk]at e;simp only at e;have hbm:some b∈B:=List.mem_of_getElem? hk;have hbg:=h.bgood b hbm;cases hr:zgO P t with
       |none=>rw[hr]at e;cases hs:zcm P t<;>rw[hs]at e<;>cases e
       |some row=>
        rw[hr]at e;cases row with
        |true=>
         cases hs:zcm P t with
         |none=>rw[hs]at e;cases e
         |some n=>
          rw[hs]at e;simp only at e;obtain⟨hle,he⟩:=zcV e;cases he;have hle:=yD hle;refine⟨?_,by simpa [SV.good]using SV.zz4 hbg.1 off n,by simpa [SV.under]using SV.zw2 hbg.2 off n⟩;show(execOp a.eval o).run P w=_;unfold execOp;rw[hop]
          have hl:(loadCells ⟨ρ k,off,none⟩ n).run P w= .ok (SV.zaV ρ ((b.cells.drop off).take n)).toArray w:=by
           have:=run_loadCells_list (P:=P) w ⟨ρ k,off,none⟩ (SV.zaV ρ ((b.cells.drop off).take n)) (λj v hv=>by
            rw[zgN];rw[zoP,List.getElem?_take,List.getElem?_drop]at hv;split at hv
            ·cases hj:b.cells[off+j]? with
             |none=>rw[hj]at hv;cases hv
             |some s=>rw[hj]at hv;cases hv;exact h.zzD hk hj
            ·cases hv)
           rw[zdg]at this;have hn:((b.cells.drop off).take n).length=n:=by simp;omega
           rwa [hn]at this
          simp[hev,Instr.loadAt,Instr.sureAddr,loadVar,Sem.run_bind,zfZ hr,zco hs,hl,SV.den]
        |false=>
         cases hs:b.cells[off]? with
         |none=>rw[hs]at e;cases hs2:zcm P t<;>rw[hs2]at e<;>cases e
         |some s=>
          have e:some s=some s0:=by cases hs2:zcm P t<;>rw[hs2,hs]at e<;>exact e
          have e':=yS e;subst e';have hmem:s∈b.cells:=List.mem_of_getElem? hs;refine⟨?_,SV.zcW.1 hbg.1 s hmem,SV.zdd.1 hbg.2 s hmem⟩;show(execOp a.eval o).run P w=_;unfold execOp;rw[hop];have hl:(load ⟨ρ k,off,none⟩).run P w= .ok (s.den ρ) w:=by simp[load,Sem.run,h.zzD hk hs]
          simp[hev,Instr.loadAt,Instr.sureAddr,loadVar,Sem.run_bind,zfZ hr,h.zzD hk hs]
     |_=>cases e
 |fieldAddr t x f=>
   rw[hop]at e;simp only[zrX]at e;cases hx:ov l x with
   |none=>rw[hx]at e;cases e
   |some sx=>
     rw[hx]at e;cases sx with
     |el eb eo ss=>
      have hev:a.eval x= .pointer (some ⟨eb,eo,none⟩):=h.eval hx;have hgx:=h.zjE hx;obtain⟨hg1,cs,hp,hcf⟩:SV.zbs F ss/\∃cs,SV.zct ss=some cs/\zoo F eb eo cs:=by simpa [SV.good]using hgx.1
      have hu1:SV.zbE B.length ss=true:=by simpa [SV.under]using hgx.2
      unfold zk2 at e;cases hu:P.underlying t with
      |none=>rw[hu]at e;cases e
      |some d=>
       rw[hu]at e;cases d with
       |struct fs=>
        simp only at e;cases hf:fs[f]? with
        |none=>rw[hf]at e;cases e
        |some fd=>
         rw[hf]at e;simp only at e;cases hs:zcm P fd.type with
         |none=>rw[hs]at e;cases e
         |some n=>
          rw[hs]at e;cases n with
          |zero=>cases e
          |succ n=>
           cases e;have hpd:=zDV fd.offset hp;refine⟨?_,?_,?_⟩
           ·show(execOp a.eval o).run P w=_;unfold execOp;rw[hop];simp[hev,Instr.fieldAt,Instr.sureAddr,fieldPlace,Sem.run_bind,run_underlying hu,hf,zco hs,SV.den,zgN]
           ·show SV.zbs F (ss.drop fd.offset)/\_;refine⟨SV.zcW.2 λs hs=>SV.zcW.1 hg1 s (List.mem_of_mem_drop hs),_,hpd,λj v hv=>?_⟩;rw[List.getElem?_drop]at hv;have:=hcf _ _ hv;rwa [<-Nat.add_assoc]at this
           ·show SV.zbE B.length (ss.drop fd.offset)=true;exact SV.zdd.2 λs hs=>SV.zdd.1 hu1 s (List.mem_of_mem_drop hs)
       |_=>cases e
     |ptr k off=>
      have hev:a.eval x= .pointer (some ⟨ρ k,off,none⟩):=h.eval hx;unfold zk2 at e;cases hu:P.underlying t with
      |none=>rw[hu]at e;cases e
      |some d=>
       rw[hu]at e;cases d with
       |struct fs=>
        simp only at e;cases hf:fs[f]? with
        |none=>rw[hf]at e;cases e
        |some fd=>
         rw[hf]at e;simp only at e;cases hs:zcm P fd.type with
         |none=>rw[hs]at e;cases e
         |some n=>
          rw[hs]at e;cases n with
          |zero=>cases e
          |succ n=>
           cases e;refine⟨?_,trivial,by have:=(h.zjE hx).2;simpa [SV.under]using this⟩
           show(execOp a.eval o).run P w=_;unfold execOp;rw[hop];simp[hev,Instr.fieldAt,Instr.sureAddr,fieldPlace,Sem.run_bind,run_underlying hu,hf,zco hs,SV.den,zgN]
       |_=>cases e
     |_=>cases hf:zk2 P t f<;>rw[hf]at e<;>cases e
 |build t ps=>
   rw[hop]at e;simp only[zrX]at e;cases hi:P.info? t with
   |none=>rw[hi]at e;cases e
   |some i=>
     cases hps:zo4 l ps.toList with
     |none=>rw[hi,hps]at e;cases e
     |some ss=>
      rw[hi,hps]at e;simp only at e;cases hz:i.zero with
      |none=>rw[hz]at e;cases e
      |some z=>
       cases hst:zlA P t with
       |false=>rw[hz,hst]at e;cases e
       |true=>
        rw[hz,hst]at e;simp only at e;cases hfl:zeS (zyc P t) (z.cells.toList.map .v) ss with
        |none=>rw[hfl]at e;cases e
        |some cs=>
         rw[hfl]at e;have e':=yS e;subst e';obtain⟨p1,p2⟩:=zz5 h hps;have hg:SV.zbs F (z.cells.toList.map SV.v):=SV.zcW.2 λs hs=>by obtain⟨y,_,rfl⟩:=List.mem_map.1 hs;trivial
         have hb:SV.zbE B.length (z.cells.toList.map SV.v)=true:=SV.zdd.2 λs hs=>by obtain⟨y,_,rfl⟩:=List.mem_map.1 hs;rfl
         obtain⟨q1,q2,q3⟩:=zJ4 ρ hfl ⟨hg,hb⟩ p2;have hden:(SV.zaV ρ (z.cells.toList.map SV.v)).toArray=z.cells:=by simp[SV.zg0,Function.comp_def,SV.den]
         rw[hden]at q1;refine⟨?_,by simpa [SV.good]using q2,by simpa [SV.under]using q3⟩;show(execOp a.eval o).run P w=_;unfold execOp;rw[hop];unfold zlA at hst;cases hu:P.underlying t with
         |none=>rw[hu]at hst;cases hst
         |some dd=>
          rw[hu]at hst;cases dd with
          |struct fs=>
           have hpm:(ps.map λ(i,x)=>(i,a.eval x)).toList=ss.map λ(i,s)=>(i,s.den ρ):=by rw[Array.toList_map];exact p1
           obtain⟨places,hpl,hpe⟩:=zEC (P:=P) hu (by unfold zlA;rw[hu];exact hst) w
           rw[<-hpe]at q1;simp only[Instr.build,Sem.run_bind,zfU hi hz,Result.andThen_ok,run_underlying hu,hpl,hpm];rw[q1];rfl
          |_=>cases hst
 |field t x f=>
   rw[hop]at e;simp only[zrX]at e;cases hx:ov l x with
   |none=>rw[hx]at e;cases e
   |some sx=>
     rw[hx]at e;cases sx with
     |agg cs=>
      have hev:a.eval x= .agg (SV.zaV ρ cs).toArray:=by rw[h.eval hx];rfl
      have hg:=h.zjE hx;have hg1:SV.zbs F cs:=by simpa [SV.good]using hg.1
      have hg2:SV.zbE B.length cs=true:=by simpa [SV.under]using hg.2
      unfold zk2 at e;cases hu:P.underlying t with
      |none=>rw[hu]at e;cases e
      |some d=>
       rw[hu]at e;cases d with
       |struct fs=>
        simp only at e;cases hf:fs[f]? with
        |none=>rw[hf]at e;cases e
        |some fd=>
         rw[hf]at e;simp only at e;cases hr:zgO P fd.type with
         |none=>rw[hr]at e;cases hs2:zcm P fd.type<;>rw[hs2]at e<;>cases e
         |some row=>
          rw[hr]at e;cases row with
          |true=>
           cases hs:zcm P fd.type with
           |none=>rw[hs]at e;cases e
           |some n=>
            rw[hs]at e;cases e;refine⟨?_,by simpa [SV.good]using SV.zz4 hg1 _ _,by simpa [SV.under]using SV.zw2 hg2 _ _⟩;show(execOp a.eval o).run P w=_;unfold execOp;rw[hop];simp[hev,Instr.field,asAgg,part,Sem.run_bind,run_underlying hu,hf,zfZ hr,zco hs,SV.den,zCC,zC0,List.extract_eq_take_drop]
          |false=>
           cases hs:cs[fd.offset]? with
           |none=>rw[hs]at e;cases hs2:zcm P fd.type<;>rw[hs2]at e<;>cases e
           |some s=>
            have e:some s=some s0:=by cases hs2:zcm P fd.type<;>rw[hs2,hs]at e<;>exact e
            have e':=yS e;subst e';have hmem:s∈cs:=List.mem_of_getElem? hs;refine⟨?_,SV.zcW.1 hg1 s hmem,SV.zdd.1 hg2 s hmem⟩;show(execOp a.eval o).run P w=_;unfold execOp;rw[hop];simp[hev,Instr.field,asAgg,part,Sem.run_bind,run_underlying hu,hf,zfZ hr,zoP,hs]
       |_=>cases e
     |_=>cases hf:zk2 P t f<;>rw[hf]at e<;>cases e
 |_=>rw[hop]at e;simp only[zrX]at e;cases e
theorem zRr{r:Option SV}(h:Cx N w0 F0 D w F L B ρ l a)(e:zp4 P l B o.op=some (r,B')):
   ∃ρ' w',Yields P o a w ρ' w' r/\Fine F B'.length r/\Cx N w0 F0 D w' F L B' ρ' l a/\∀k,k<B.length->ρ' k=ρ k:=by
 cases hop:o.op with
 |alloc t=>
   rw[hop]at e;simp only[zp4]at e;cases hi:P.info? t with
   |none=>rw[hi]at e;cases e
   |some i=>
     rw[hi]at e;simp only at e;cases hz:i.zero with
     |none=>rw[hz]at e;cases e
     |some z=>
      rw[hz]at e;cases e;have hg:SV.zbs F (z.cells.toList.map SV.v):=SV.zcW.2 λs hs=>by obtain⟨y,_,rfl⟩:=List.mem_map.1 hs;trivial
      have hb:SV.zbE B.length (z.cells.toList.map SV.v)=true:=SV.zdd.2 λs hs=>by obtain⟨y,_,rfl⟩:=List.mem_map.1 hs;rfl
      obtain⟨ρ',h1,hr,h2⟩:=h.zGm ⟨t,z.cells.toList.map .v⟩ hg hb;have hden:(SV.zaV ρ (z.cells.toList.map SV.v)).toArray=z.cells:=by simp[SV.zg0,Function.comp_def,SV.den]
      rw[hden]at h2;refine⟨ρ',_,?_,⟨trivial,by simp[SV.under]⟩,h2,hr⟩;show(execOp a.eval o).run P w=_;unfold execOp;rw[hop];simp only[Instr.alloc,Sem.run_bind,zfU hi hz,Result.andThen_ok,zt0,SV.den,h1];rfl
 |box t x=>
   rw[hop]at e;simp only[zp4]at e;cases hx:ov l x with
   |none=>rw[hx]at e;cases e
   |some s=>
     rw[hx]at e;simp only at e;cases hc:s.cells with
     |none=>rw[hc]at e;cases e
     |some cs=>
      rw[hc]at e;cases e;obtain⟨hg,hb⟩:=SV.cells_ok hc (h.zjE hx).1 (h.zjE hx).2;obtain⟨ρ',h1,hr,h2⟩:=h.zGm ⟨t,cs⟩ hg hb;have hden:(SV.zaV ρ cs).toArray=(a.eval x).cells:=by rw[h.eval hx,<-SV.ztb ρ hc]
      rw[hden]at h2;refine⟨ρ',_,?_,⟨trivial,by simp[SV.under]⟩,h2,hr⟩;show(execOp a.eval o).run P w=_;unfold execOp;rw[hop];simp only[Instr.box,Sem.run_bind,zt0,Result.andThen_ok,SV.den,h1];rfl
 |buildSlice t len ps=>
   rw[hop]at e;simp only[zp4]at e;cases he:zmQ P t with
   |none=>rw[he]at e;cases e
   |some el=>
     cases hps:zo4 l ps.toList with
     |none=>rw[he,hps]at e;cases e
     |some ss=>
      rw[he,hps]at e;simp only at e;cases hs:zcm P el with
      |none=>rw[hs]at e;cases e
      |some n1=>
       cases n1 with
       |zero=>rw[hs]at e;cases e
       |succ n=>
        rw[hs]at e;simp only at e;cases hr:zGe (n+1) 0 ss with
        |none=>rw[hr]at e;cases e
        |some cs=>
         rw[hr]at e;simp only at e;obtain⟨hcond,e⟩:=zcV e;cases e;simp only[qz4]at hcond;obtain⟨⟨⟨c1,c2⟩,c4⟩,c3⟩:=hcond;have c4:=yD c4;have c1:=yC c1;have c2:=yD c2;unfold zHN at c3;cases hi:P.info? el with
         |none=>rw[hi]at c3;cases c3
         |some i=>
          rw[hi]at c3;simp only at c3;cases hz:i.zero with
          |none=>rw[hz]at c3;cases c3
          |some z=>
           rw[hz]at c3;have c3:=yC c3;obtain⟨p1,p2⟩:=zz5 h hps;have hbase:((Array.range (len*(n+1))).map λx=>z.cells[x%z.cells.size]!).size=len*(n+1):=by simp
           obtain⟨q1,q2,q3,q4⟩:=zIx ρ (k:=0) ((Array.range (len*(n+1))).map λx=>z.cells[x%z.cells.size]!) hr (by rw[hbase,c1,Nat.zero_add];exact yJ _) p2
           obtain⟨ρ',h1,hrr,h2⟩:=h.zGm ⟨el,cs⟩ q3 q4;refine⟨ρ',_,?_,⟨trivial,by simp[SV.under]⟩,h2,hrr⟩;show(execOp a.eval o).run P w=_;unfold execOp;rw[hop];unfold zmQ at he;cases hu:P.underlying t with
           |none=>rw[hu]at he;cases he
           |some dd=>
            rw[hu]at he;cases dd with
            |slice el'=>
             cases he;have hpm:(ps.map λ(i,x)=>(i,a.eval x)).toList=ss.map λ(i,s)=>(i,s.den ρ):=by rw[Array.toList_map];exact p1
             have hno: ¬len*(n+1)>2^24:=by omega
             have hdrop:((Array.range (len*(n+1))).map λx=>z.cells[x%z.cells.size]!).toList.drop ((0+ss.length)*(n+1))=[]:=by
              rw[List.drop_of_length_le];rw[Array.length_toList,hbase,c1,Nat.zero_add];exact yJ _
             rw[hdrop]at q1;simp only[Nat.zero_mul,List.take_zero,List.nil_append,List.append_nil]at q1;by_cases h0:len*(n+1)=0
             ·omega
             ·simp only[Instr.buildSlice,Sem.run_bind,run_underlying hu,Result.andThen_ok,zco hs,hno,yA,h0,zfU hi hz,Sem.run_pure,hpm,q1];simp only[zFr,Result.andThen_ok,SV.den,h1,Sem.run_pure]
            |_=>cases he
 |store t x y=>
   rw[hop]at e;simp only[zp4]at e;cases hx:ov l x with
   |none=>rw[hx]at e;cases e
   |some sx=>
     rw[hx]at e;cases sx with
     |ptr k off=>
      cases hy:ov l y with
      |none=>rw[hy]at e;cases e
      |some s=>
       rw[hy]at e;simp only at e;have hev:a.eval x= .pointer (some ⟨ρ k,off,none⟩):=h.eval hx;have hey:=h.eval hy;cases hk:B[k]? with
       |none=>rw[hk]at e;cases e
       |some ob=>
       cases ob with
       |none=>rw[hk]at e;cases hc:s.cells<;>cases hs:zcm P t<;>rw[hc,hs]at e<;>cases e
       |some b=>
        cases hc:s.cells with
        |none=>rw[hk,hc]at e;cases e
        |some cs=>
         cases hs:zcm P t with
         |none=>rw[hk,hc,hs]at e;cases e
         |some n=>
          rw[hk,hc,hs]at e;simp only at e;obtain⟨hcond,he⟩:=zcV e;cases he;simp only[qz4]at hcond;obtain⟨⟨hn,hle⟩,h1⟩:=hcond;have hn:=yC hn;have hle:=yD hle;have hbm:some b∈B:=List.mem_of_getElem? hk;have hcells:=SV.ztb ρ hc;have hblk:=h.box hk;obtain⟨q1,q2,q3,q4,q5⟩:=zkf (ρ k) (SV.zaV ρ cs) off w;have q6:=zhI (ρ k) (SV.zaV ρ cs) off w _ hblk (by simp[zdg];exact hle)
          obtain⟨hg,hb⟩:=zIk (off:=off) (h.bgood b hbm) (SV.cells_ok hc (h.zjE hy).1 (h.zjE hy).2);refine⟨ρ,w.setCells (ρ k) off (SV.zaV ρ cs),?_,trivial,h.zRt (b':=⟨b.ty,setAt b.cells off cs⟩) hk rfl hg hb q1 q2 q3 q4 ?_ q5,λ_ _=>rfl⟩
          ·show(execOp a.eval o).run P w=_;unfold execOp;rw[hop]
           have hthere: ∀j,j< (SV.zaV ρ cs).length->(w.cell? ⟨ρ k,off+0+j,none⟩).isSome=true:=λj hj=>by
            rw[zdg]at hj;have hj':off+j<b.cells.length:=by omega
            rw[Nat.add_zero,h.zzD hk (qz9 hj')];rfl
           have hfree: ∀j,j< (SV.zaV ρ cs).length->w.frozen? ⟨ρ k,off+0+j,none⟩=false:=λj _=>by
            unfold World.frozen?;rw[hblk];simp
           have hst:=run_storeCells_cells (P:=P) (ρ k) off (SV.zaV ρ cs) 0 w hthere hfree (SV.zwB ρ h1);have hsz:(s.den ρ).cells.size=n:=by rw[<-Array.length_toList,hcells,zdg,hn]
           have hst2:(storeCells ⟨ρ k,off,none⟩ (s.den ρ).cells.toList).run P w= .ok () (w.setCells (ρ k) off (SV.zaV ρ cs)):=by rw[hcells];exact hst
           simp only[hev,hey,Instr.storeAt,Instr.sureAddr,storeVar,Sem.run_bind,Sem.run_pure,Result.andThen_ok,zco hs,hsz,ne_eq,not_true_eq_false,yA,hst2]
          ·rw[q6];congr 2;simp[setAt,zxJ,zCC,zC0,zdg]
     |_=>cases hy:ov l y<;>rw[hy]at e<;>cases e
 |_=>rw[hop]at e;simp only[zp4]at e;cases e
theorem zRz{x:Value}(h:Cx N w0 F0 D w F L B ρ l a)(e:strs l o.op=some x):(execOp a.eval o).run P w= .ok (.value x) w:=by
 cases hop:o.op with
 |binOp op t u v t2=>
   rw[hop]at e;simp only[strs]at e;cases hu:ov l u with
   |none=>rw[hu]at e;cases op<;>cases e
   |some su=>
     cases hv:ov l v with
     |none=>rw[hu,hv]at e;cases su with
      |v y=>cases y<;>cases op<;>cases e
      |_=>cases op<;>cases e
     |some sv=>
      rw[hu,hv]at e;cases su with
      |v xu=>
       cases xu with
       |string s=>
        cases sv with
        |v xv=>
         cases xv with
         |string t'=>
          have h1:a.eval u= .string s:=h.eval hu;have h2:a.eval v= .string t':=h.eval hv;unfold execOp;rw[hop];simp only[h1,h2];cases op<;>simp only at e<;>cases e<;>simp[eqGuard,binOp,Op.stringOp,ByteArray.toList_eq]
         |_=>cases op<;>cases e
        |_=>cases op<;>cases e
       |_=>cases sv with
        |v y=>cases y<;>cases op<;>cases e
        |_=>cases op<;>cases e
      |_=>cases sv with
       |v y=>cases y<;>cases op<;>cases e
       |_=>cases op<;>cases e
 |_=>rw[hop]at e;simp only[strs]at e;cases e
theorem zIN{t:TypeId}{cs:List SV}{off:Nat}{s:SV}(ht:zgO P t=some false)(hs:cs[off]? =some s)(w:World):(part t (SV.zaV ρ cs).toArray off).run P w= .ok (s.den ρ) w:=by
 have h1:(SV.zaV ρ cs).toArray[off]? =some (s.den ρ):=by simp[zoP,hs]
 simp[part,Sem.run_bind,zfZ ht,h1]
theorem zMt{xs ys:List SV}{d:Nat}(w:World): ∀{fs:List Field} {b:Bool},eqF P xs ys fs=some b->(Op.eqFields (d+1) (SV.zaV ρ xs).toArray (SV.zaV ρ ys).toArray fs).run P w= .ok b w
 | [],b,e=>by cases e;rfl
 |f::r,b,e=>by
   simp only[eqF]at e
   cases hn:f.name== "_" with
   |true=>rw[hn]at e;cases e
   |false=>
     rw[hn]at e;simp only[cond_false]at e
     have hn':f.name≠ "_":=by simpa using hn
     cases hr:eqF P xs ys r with
     |none=>rw[hr]at e;cases e
     |some c=>
      rw[hr]at e;simp only at e;have ih:=zMt (d:=d) w hr
      have fin: ∀{x y:SV} {q:Bool},zgO P f.type=some false->xs[f.offset]? =some x->ys[f.offset]? =some y->(Op.equalIn (d+1) f.type (x.den ρ) (y.den ρ)).run P w= .ok q w->b=(q&&c)->
        (Op.eqFields (d+1) (SV.zaV ρ xs).toArray (SV.zaV ρ ys).toArray (f::r)).run P w= .ok b w:=by
       intro x y q h1 h2 h3 h4 h5;rw[Op.eqFields];simp only[yL hn',Sem.run_bind,zIN h1 h2,zIN h1 h3,h4,Result.andThen_ok];subst h5;cases q
       ·simp
       ·simpa using ih
      cases hu:P.underlying f.type with
      |none=>rw[hu]at e;cases e
      |some u=>
       rw[hu]at e
       have hrow:(∀fs,u≠ .struct fs)->(∀n t,u≠ .array n t)->zgO P f.type=some false:=by
        intro h1 h2;unfold zgO;rw[hu];cases u<;>first|rfl|exact absurd rfl (h1 _)|exact absurd rfl (h2 _ _)
       cases hx:xs[f.offset]? with
       |none=>rw[hx]at e;cases u<;>cases e
       |some x=>
        cases hy:ys[f.offset]? with
        |none=>rw[hx,hy]at e;cases u<;>(try cases e)<;>(cases x with|v z=>cases z<;>cases e|_=>cases e)
        |some y=>
         rw[hx,hy]at e;split at e
         ·rename_i x' y' h1 h2 h3;cases h1;cases h2;cases h3;cases e;exact fin (hrow (by simp) (by simp)) hx hy (run_equalIn_bool' w d _ x' y' hu) rfl
         ·rename_i k0 k x' k' y' h1 h2 h3;cases h1;cases h2;cases h3;obtain⟨hk,e2⟩:=zcV e;have hk:k=k':=by simpa using hk
          subst hk;subst e2;exact fin (hrow (by simp) (by simp)) hx hy (run_equalIn_int w d _ k k0 x' y' hu) rfl
         ·rename_i x' y' h1 h2 h3;cases h1;cases h2;cases h3;cases e;refine fin (hrow (by simp) (by simp)) hx hy (run_equalIn_string w d _ x' y' hu) ?_;rw[ByteArray.toList_eq,ByteArray.toList_eq]
         ·cases e
theorem zSa{x:Value}(h:Cx N w0 F0 D w F L B ρ l a)(e:eqS P l o.op=some x):(execOp a.eval o).run P w= .ok (.value x) w:=by
 cases hop:o.op with
 |binOp op t u v t2=>
   rw[hop]at e;simp only[eqS]at e;split at e
   · rename_i xs ys fs hu hv hf;split at e
     ·rename_i b hb;cases hc:(!P.stoodInHeld t&& !P.eqGuardType P.depth t)with
      |false=>rw[hc]at e;cases e
      |true=>
       rw[hc]at e;simp only[cond_true]at e;simp only[qz4,Bool.not_eq_true']at hc;have e1:a.eval u= .agg (SV.zaV ρ xs).toArray:=h.eval hu;have e2:a.eval v= .agg (SV.zaV ρ ys).toArray:=h.eval hv;have hfo:P.fieldsOf t=fs:=by simp[Program.fieldsOf,hf]
       have heq:(Op.equalIn 10000 t (.agg (SV.zaV ρ xs).toArray) (.agg (SV.zaV ρ ys).toArray)).run P w= .ok b w:=by
        rw[run_equalIn_struct (P:=P) w 9999 t _ _ (by rw[hfo];exact hf) hc.1,hfo]
        exact zMt (d:=9998) w hb
       unfold execOp;rw[hop];simp only[e1,e2,Sem.run_bind,run_eqGuard_agg w op t u v _ _ hc.2,Result.andThen_ok];cases op<;>simp only at e<;>cases e
       ·simp only[run_eql_struct,heq,Result.andThen_ok,Sem.run_pure]
       ·simp only[run_neq_struct,heq,Result.andThen_ok,Sem.run_pure]
     ·cases e
   · cases e
 |_=>rw[hop]at e;simp only[eqS]at e;cases e
theorem zIR(h:Cx N w0 F0 D w F L B ρ l a): ∀{xs:List Operand},allPlain l xs=true->∀x∈xs,ρof l x=a.eval x
 | [],_,x,hx=>by cases hx
 |y::r,hp,x,hx=>by
   simp only[allPlain,qz4]at hp;rcases yP.1 hx with e|e
   · subst e;unfold ρof;cases hy:ov l x with
     |none=>rw[hy]at hp;simp at hp
     |some s=>
      rw[hy]at hp;simp only at hp⊢;cases hs:s.plain with
      |none=>rw[hs]at hp;simp at hp
      |some v=>rw[h.eval hy,SV.zGU ρ hs]
   · exact zIR h hp.2 x e
theorem pure_ok{x:Value}(h:Cx N w0 F0 D w F L B ρ l a)(hsel: ∀cs b,o.op≠ .select cs b)(hp:allPlain l o.op.operands.toList=true)(e:zqo P (execOp (ρof l) o)=some x):(execOp a.eval o).run P w= .ok (.value x) w:=by
 rw[<-execOp_congr o hsel (λy hy=>zIR h hp y (by simpa using hy))];exact zAx e w
theorem zOo{s:SV}(h:Cx N w0 F0 D w F L B ρ l a)(e:quiet P l B o=some s):
   (execOp a.eval o).run P w= .ok (.value (s.den ρ)) w/\s.good F/\s.under B.length=true:=by
 unfold quiet at e;cases ho:zrX P l B o.op with
 |some q=>rw[ho]at e;cases e;exact zPy h ho
 |none=>
   rw[ho]at e;simp only at e;cases hs:strs l o.op with
   |some x=>rw[hs]at e;cases e;exact⟨zRz h hs,trivial,rfl⟩
   |none=>
     rw[hs]at e;simp only at e;cases hes:eqS P l o.op with
     |some x=>rw[hes]at e;cases e;exact⟨zSa h hes,trivial,rfl⟩
     |none=>
     rw[hes]at e;simp only at e
     obtain⟨hp,hsel,e⟩:allPlain l o.op.operands.toList=true/\zIa o.op=false/\(match zqo P (execOp (ρof l) o)with|some x=>some (SV.v x)|none=>none)=some s:=by
      cases hq:allPlain l o.op.operands.toList&& !zIa o.op with
      |true=>rw[hq]at e;simp at hq;exact⟨hq.1,hq.2,e⟩
      |false=>rw[hq]at e;cases e
     cases hx:zqo P (execOp (ρof l) o)with
     |none=>rw[hx]at e;cases e
     |some x=>
      rw[hx]at e;cases e;exact⟨pure_ok h (λcs b hb=>by rw[hb]at hsel;cases hsel) hp hx,trivial,rfl⟩
theorem znp{K:Act->World->Prop}{Q:Exit->Act->World->Prop}{w':World}{v:Value}(h:(execOp a.eval o).run P w= .ok (.value v) w')(hK:K (a.put o.dst v) w'):o.wp P a w K Q:=by
 unfold Oper.wp;rw[h];exact hK
theorem zzB{K:Act->World->Prop}{Q:Exit->Act->World->Prop}{w':World}(h:(execOp a.eval o).run P w= .ok .skip w')(hK:K (a.put o.dst undef) w'):o.wp P a w K Q:=by
 unfold Oper.wp;rw[h];exact hK
theorem zg3{ops:Array Oper}{Q:Exit->Act->World->Prop}{rest:List Oper}(hw:Region.wanted o (yielded ops a.tmps)=true)(h:o.wp P a w (wpList P ops Q rest) Q):wpList P ops Q (o::rest) a w:=by
 unfold wpList;rw[yL hw];exact .inl h
theorem zmr{ops:Array Oper}{Q:Exit->Act->World->Prop}{rest:List Oper}(hw:Region.wanted o (yielded ops a.tmps)=false)(h:wpList P ops Q rest (a.put o.dst undef) w):wpList P ops Q (o::rest) a w:=by
 unfold wpList;rw[yK (by simp[hw])];exact h
end
abbrev Gs:=List (Nat×Bool)
inductive LV where
 |s (x:SV)
 |c (gs:Gs) (q:Bool) (x:SV)
abbrev Lc:=List (Nat×LV)
def zmS(ops:Array Oper)(j:Nat):Option Nat:=match ops[j]? with
 |some o=>o.dst
 |none=>none
def zmX:Lc->Nat->Option LV
 | [],_=>none
 | (k,v)::r,t=>bif Nat.beq k t then some v else zmX r t
def lk(lc:Lc)(l:Env)(t:Nat):Option LV:=match zmX lc t with
 |some v=>some v
 |none=>match look l t with|some s=>some (.s s)|none=>none
def eqG:Gs->Gs->Bool
 | [],[]=>true
 | (i,b)::r,(j,c)::s=>Nat.beq i j&&(b==c)&&eqG r s
 |_,_=>false
def zEr(g:Gs):Gs->Bool
 | []=>eqG g []
 |p::r=>eqG g (p::r)||zEr g r
def rid(t:Nat):Env->Env
 | []=>[]
 | (k,s)::r=>bif Nat.beq k t then rid t r else(k,s)::rid t r
def unw:Lc->Env->Gs->Env
 | [],l,_=>l
 | (t,.s x)::r,l,gs=>(t,x)::unw r l gs
 | (t,.c g _ x)::r,l,gs=>bif zEr g gs then(t,x)::unw r l gs else rid t (unw r l gs)
theorem zEH: ∀{g h:Gs},eqG g h=true->g=h
 | [],[],_=>rfl
 | (i,b)::r,(j,c)::s,e=>by
   simp only[eqG,qz4]at e;obtain⟨⟨e1,e2⟩,e3⟩:=e;have:=yC e1;have h2:b=c:=by simpa using e2
   rw[this,h2,zEH e3]
 | [],_::_,e=>by cases e
 |_::_,[],e=>by cases e
theorem zD6{g:Gs}: ∀{h:Gs},zEr g h=true->∀p∈g,p∈h
 | [],e,p,hp=>by rw[zEH e]at hp;exact hp
 |x::r,e,p,hp=>by
   simp only[zEr,yQ]at e;rcases e with e|e
   · rw[zEH e]at hp;exact hp
   · exact qz8 _ (zD6 e p hp)
theorem zDY{t:Nat}: ∀{l:Env} {u:Nat} {s:SV},look (rid t l) u=some s->u≠t/\look l u=some s
 | [],_,_,h=>by cases h
 | (k,x)::r,u,s,h=>by
   simp only[rid]at h;cases hk:Nat.beq k t with
   |true=>
     rw[hk]at h;obtain⟨h1,h2⟩:=zDY (l:=r) h;refine⟨h1,?_⟩;simp only[look]
     have:Nat.beq k u=false:=by
      have hkt:=yC hk;subst hkt;cases hb:Nat.beq k u with
      |true=>exact absurd (yC hb).symm h1
      |false=>rfl
     rw[this];exact h2
   |false=>
     rw[hk]at h;simp only[cond_false,look]at h⊢;cases hu:Nat.beq k u with
     |true=>
      rw[hu]at h;simp only[cond_true]at h⊢;refine⟨λe=>?_,h⟩;subst e;rw[hu]at hk;cases hk
     |false=>rw[hu]at h;exact zDY (l:=r) h
theorem zzU{gs:Gs}: ∀{lc:Lc} {l:Env} {t:Nat} {s:SV},look (unw lc l gs) t=some s->lk lc l t=some (.s s)\/∃g q,zEr g gs=true/\lk lc l t=some (.c g q s)
 | [],l,t,s,h=>by
   left;unfold lk;simp only[unw]at h;simp[zmX,h]
 | (k,.s x)::r,l,t,s,h=>by
   simp only[unw,look]at h;cases hk:Nat.beq k t with
   |true=>
     rw[hk]at h;simp only[cond_true]at h;cases h;left;simp[lk,zmX,hk]
   |false=>
     rw[hk]at h;have:=zzU (lc:=r) h;simpa [lk,zmX,hk]using this
 | (k,.c g q x)::r,l,t,s,h=>by
   simp only[unw]at h;cases hs:zEr g gs with
   |true=>
     rw[hs]at h;simp only[cond_true,look]at h;cases hk:Nat.beq k t with
     |true=>
      rw[hk]at h;simp only[cond_true]at h;cases h;right;exact⟨g,q,hs,by simp[lk,zmX,hk]⟩
     |false=>
      rw[hk]at h;have:=zzU (lc:=r) h;simpa [lk,zmX,hk]using this
   |false=>
     rw[hs]at h;obtain⟨h1,h2⟩:=zDY h
     have hk:Nat.beq k t=false:=by
      cases hb:Nat.beq k t with
      |true=>exact absurd (yC hb).symm h1
      |false=>rfl
     have:=zzU (lc:=r) h2;simpa [lk,zmX,hk]using this
def hold(ops:Array Oper)(a:Act)(gs:Gs):Prop:=∀p∈gs,yielded ops a.tmps p.1=some p.2
section
variable {P:Program} {N:Nat} {w0:World} {F0:Heap} {D:Own} {w:World} {F:Heap} {L:List SP} {B B':List (Option Box)} {ρ:Nat->Nat} {l:Env} {a:Act} {o:Oper} {ops:Array Oper} {lc:Lc}
def zOZ(ops:Array Oper)(N:Nat)(F:Heap)(n:Nat)(ρ:Nat->Nat)(a:Act)(t:Nat):LV->Prop
 | .s x=>t<N/\a.tmps.getD t undef=x.den ρ/\x.good F/\x.under n=true
 | .c gs q x=>t<N/\a.tmps.getD t undef=(if q=true then x.den ρ else undef)/\(q=true->x.good F/\x.under n=true)/\(q=true↔hold ops a gs)
structure Lx (ops:Array Oper) (N:Nat) (w0:World) (F0:Heap) (D:Own) (w:World) (F:Heap) (L:List SP) (B:List (Option Box)) (ρ:Nat->Nat) (lc:Lc) (l:Env) (a:Act):Prop where
 base:Cx N w0 F0 D w F L B ρ [] a
 env: ∀t v,lk lc l t=some v->zOZ ops N F B.length ρ a t v
theorem Lx.start(h:Cx N w0 F0 D w F L B ρ l a):Lx ops N w0 F0 D w F L B ρ [] l a:=by
 refine⟨h.pick .nil,λt v e=>?_⟩;simp only[lk,zmX]at e;cases hl:look l t with
 |none=>rw[hl]at e;cases e
 |some s=>rw[hl]at e;cases e;exact⟨(h.env t s hl).1,(h.env t s hl).2,(h.good t s hl).1,(h.good t s hl).2⟩
theorem Lx.unw{gs:Gs}(h:Lx ops N w0 F0 D w F L B ρ lc l a)(hg:hold ops a gs):Cx N w0 F0 D w F L B ρ (unw lc l gs) a:=by
 have key: ∀t s,look (Gw.unw lc l gs) t=some s->t<N/\a.tmps.getD t undef=s.den ρ/\s.good F/\s.under B.length=true:=by
   intro t s e;rcases zzU e with e| ⟨g,q,hs,e⟩
   · exact h.env t _ e
   · obtain⟨h1,h2,h3,h5⟩:=h.env t _ e;have hq:q=true:=h5.2 (λp hp=>hg p (zD6 hs p hp));rw[yL hq]at h2;exact⟨h1,h2,h3 hq⟩
 exact⟨h.base.size,h.base.nodef,λt s e=>⟨(key t s e).1,(key t s e).2.1⟩,λt s e=>(key t s e).2.2,h.base.bgood,h.base.fix,h.base.st⟩
theorem zvA(ops:Array Oper)(a:Act):hold ops a []:=λ_ hp=>by cases hp
theorem Lx.moved{w':World}{B':List (Option Box)}{ρ':Nat->Nat}(h:Lx ops N w0 F0 D w F L B ρ lc l a)(h':Cx N w0 F0 D w' F L B' ρ' [] a)(hB:B.length<=B'.length)(hρ: ∀k,k<B.length->ρ' k=ρ k):Lx ops N w0 F0 D w' F L B' ρ' lc l a:=by
 refine⟨h',λt v e=>?_⟩;have:=h.env t v e;cases v with
 |s x=>exact⟨this.1,by rw[this.2.1,SV.zyq hρ this.2.2.2],this.2.2.1,SV.zqi hB this.2.2.2⟩
 |c gs q x=>
   refine⟨this.1,?_,λhq=>⟨(this.2.2.1 hq).1,SV.zqi hB (this.2.2.1 hq).2⟩,this.2.2.2⟩;rw[this.2.1];split
   · rename_i hq;exact(SV.zyq hρ (this.2.2.1 hq).2).symm
   · rfl
def zzW(ops:Array Oper)(d:Nat):Gs->Bool
 | []=>true
 | (j,_)::r=>(match zmS ops j with|some e=> !(Nat.beq e d)|none=>true)&&zzW ops d r
def zDb(ops:Array Oper)(d:Nat):Lc->Bool
 | []=>true
 | (_,.s _)::r=>zDb ops d r
 | (_,.c gs _ _)::r=>zzW ops d gs&&zDb ops d r
theorem zJs{d j:Nat}{v:Value}(a:Act)(h:(match zmS ops j with|some e=> !(Nat.beq e d)|none=>true)=true):yielded ops (a.put (some d) v).tmps j=yielded ops a.tmps j:=by
 unfold yielded;unfold zmS at h;cases hj:ops[j]? with
 |none=>rfl
 |some oj=>
   rw[hj]at h;simp only at h;cases hd:oj.dst with
   |none=>simp[hd]
   |some e=>
     rw[hd]at h;have hne:e≠d:=λe'=>by subst e';simp at h
     simp only[qz1,hd,Act.put];rw[Array.getElem?_setIfInBounds_ne (Ne.symm hne)]
theorem zDW{d:Nat}{v:Value}{a:Act}: ∀{gs:Gs},zzW ops d gs=true->(hold ops (a.put (some d) v) gs↔hold ops a gs)
 | [],_=>⟨λ_=>zvA _ _,λ_=>zvA _ _⟩
 | (j,b)::r,h=>by
   simp only[zzW,qz4]at h;have e:=zJs (v:=v) a h.1;have ih:=zDW (v:=v) (a:=a) h.2;constructor
   · intro hh p hp;rcases yP.1 hp with e1|e1
     ·subst e1;rw[<-e];exact hh _ qz7
     ·exact ih.1 (λp hp=>hh p (qz8 _ hp)) p e1
   · intro hh p hp;rcases yP.1 hp with e1|e1
     ·subst e1;rw[e];exact hh _ qz7
     ·exact ih.2 (λp hp=>hh p (qz8 _ hp)) p e1
theorem zEm{d:Nat}: ∀{lc:Lc} {t:Nat} {gs:Gs} {q:Bool} {x:SV},zDb ops d lc=true->zmX lc t=some (.c gs q x)->zzW ops d gs=true
 | [],_,_,_,_,_,e=>by cases e
 | (k,.s y)::r,t,gs,q,x,h,e=>by
   simp only[zmX]at e;cases hk:Nat.beq k t with
   |true=>rw[hk]at e;simp only[cond_true]at e;cases e
   |false=>rw[hk]at e;exact zEm (lc:=r) h e
 | (k,.c g p y)::r,t,gs,q,x,h,e=>by
   simp only[zDb,qz4]at h;simp only[zmX]at e;cases hk:Nat.beq k t with
   |true=>rw[hk]at e;simp only[cond_true]at e;cases e;exact h.1
   |false=>rw[hk]at e;exact zEm (lc:=r) h.2 e
theorem Lx.put(h:Lx ops N w0 F0 D w F L B ρ lc l a){d:Nat}{v:LV}{u:Value}(hd:d<N)(hf:zDb ops d lc=true)
   (hv:match v with| .s x=>u=x.den ρ/\x.good F/\x.under B.length=true| .c gs q x=>u=(if q=true then x.den ρ else undef)/\(q=true->x.good F/\x.under B.length=true)/\(q=true↔hold ops a gs)/\zzW ops d gs=true):
   Lx ops N w0 F0 D w F L B ρ ((d,v)::lc) l (a.put (some d) u):=by
 have hda:d<a.tmps.size:=by rw[h.base.size];exact hd
 refine⟨⟨by rw[zDZ];exact h.base.size,by rw[put_defers];exact h.base.nodef,(λt s e=>by cases e),(λt s e=>by cases e),h.base.bgood,h.base.fix,h.base.st⟩,λt v' e=>?_⟩
 simp only[lk,zmX]at e;cases hk:Nat.beq d t with
 |true=>
   rw[hk]at e;simp only[cond_true]at e;cases e;have:=yC hk;subst this;cases v with
   |s x=>exact⟨hd,by rw[zna _ _ _ hda];exact hv.1,hv.2⟩
   |c gs q x=>exact⟨hd,by rw[zna _ _ _ hda];exact hv.1,hv.2.1,hv.2.2.1.trans (zDW hv.2.2.2).symm⟩
 |false=>
   rw[hk]at e;have hne:t≠d:=λe'=>by rw[<-e',Nat.beq_refl]at hk;cases hk
   have e':lk lc l t=some v':=e;have:=h.env t v' e';cases v' with
   |s x=>exact⟨this.1,by rw[zoA _ _ _ _ hne];exact this.2.1,this.2.2⟩
   |c gs q x=>
     refine⟨this.1,by rw[zoA _ _ _ _ hne];exact this.2.1,this.2.2.1,this.2.2.2.trans (zDW ?_).symm⟩
     unfold lk at e';cases hl:zmX lc t with
     |none=>
      rw[hl]at e';cases hl2:look l t with
      |none=>rw[hl2]at e';cases e'
      |some s=>rw[hl2]at e';cases e'
     |some v2=>rw[hl]at e';cases e';exact zEm hf hl
inductive G where
 |yes
 |no
 |sym (gs:Gs) (q:Bool)
def zOt(j:Nat):List Nat->Bool
 | []=>false
 |k::r=>Nat.beq j k||zOt j r
def gd(ops:Array Oper)(lit:List Nat)(lc:Lc)(l:Env):Option (Nat×Bool)->Option G
 |none=>some .yes
 |some (j,want)=>match zmS ops j with
   |none=>none
   |some d=>bif zOt j lit then(match lk lc l d with
      |some (.s (.v (.bool b)))=>(match b,want with
       |true,true=>some .yes
       |false,false=>some .yes
       |_,_=>some .no)
      |some (.s (.v (.tuple _)))=>some .no
      |_=>none)
     else match lk lc l d with
      |some (.s (.v (.bool b)))=>some (.sym [(j,want)] (match want with|true=>b|false=> !b))
      |some (.c gs q (.v (.bool b)))=>some (.sym ((j,want)::gs) (q&&(match want with|true=>b|false=> !b)))
      |_=>none
theorem zOZ.get{d:Nat}{v:LV}(h:zOZ ops N F B.length ρ a d v)(hs:a.tmps.size=N):a.tmps[d]? =some (a.tmps.getD d undef):=by
 have hd:d<a.tmps.size:=by cases v<;>(rw[hs];exact h.1)
 simp[Array.getD,hd]
theorem zqM{j d:Nat}(hj:zmS ops j=some d)(a:Act):yielded ops a.tmps j=(match a.tmps[d]? with|some (.bool b)=>some b|_=>none):=by
 unfold zmS at hj;unfold yielded;cases ho:ops[j]? with
 |none=>rw[ho]at hj;cases hj
 |some oj=>
   rw[ho]at hj;simp only at hj;simp only[qz1,hj];rcases a.tmps[d]? with _|v
   · rfl
   · cases v<;>rfl
def Gok(ops:Array Oper)(a:Act)(o:Oper):G->Prop
 | .yes=>Region.wanted o (yielded ops a.tmps)=true
 | .no=>Region.wanted o (yielded ops a.tmps)=false
 | .sym gs q=>Region.wanted o (yielded ops a.tmps)=q/\(q=true↔hold ops a gs)
theorem zHP{lit:List Nat}{g:G}(h:Lx ops N w0 F0 D w F L B ρ lc l a)(e:gd ops lit lc l o.guard=some g):Gok ops a o g:=by
 suffices hh: ∀gu,gu=o.guard->(match g with
   | .yes=>(match gu with|none=>true|some (j,want)=>yielded ops a.tmps j==some want)=true
   | .no=>(match gu with|none=>true|some (j,want)=>yielded ops a.tmps j==some want)=false
   | .sym gs q=>(match gu with|none=>true|some (j,want)=>yielded ops a.tmps j==some want)=q/\(q=true↔hold ops a gs)) by
   have:=hh _ rfl;cases g<;>exact this
 intro gu hgu;rw[<-hgu]at e;clear hgu;cases gu with
 |none=>cases e;rfl
 |some jw=>
   obtain⟨j,want⟩:=jw;simp only[gd]at e;cases hj:zmS ops j with
   |none=>rw[hj]at e;cases e
   |some d=>
     rw[hj]at e;simp only at e;have hy:=zqM hj a;cases hm:zOt j lit with
     |true=>
      rw[hm]at e;simp only[cond_true]at e;cases hl:lk lc l d with
      |none=>rw[hl]at e;cases e
      |some v=>
       rw[hl]at e;have hv:=h.env d v hl;have hget:=hv.get h.base.size;cases v with
       |c gs q x=>cases e
       |s x=>
        rw[hv.2.1]at hget;cases x with
        |v y=>
         cases y with
         |bool b=>
          simp only[hget,SV.den]at hy;cases b<;>cases want<;>cases e<;>simp[hy]
         |tuple vs=>
          simp only[hget,SV.den]at hy;cases e;simp[hy]
         |_=>cases e
        |_=>cases e
     |false=>
      rw[hm]at e;simp only[cond_false]at e;cases hl:lk lc l d with
      |none=>rw[hl]at e;cases e
      |some v=>
       rw[hl]at e;have hv:=h.env d v hl;have hget:=hv.get h.base.size;cases v with
       |s x=>
        rw[hv.2.1]at hget;cases x with
        |v y=>
         cases y with
         |bool b=>
          simp only[hget,SV.den]at hy;cases e
          have hold1:hold ops a [(j,want)]↔b=want:=by
           constructor
           ·intro hh;have:=hh _ qz7;rw[hy]at this;exact yS this
           ·intro hb p hp;rw[List.mem_singleton.1 hp,hy,hb]
          refine⟨?_,?_⟩
          ·show(yielded ops a.tmps j==some want)=_;rw[hy];cases b<;>cases want<;>rfl
          ·rw[hold1];cases b<;>cases want<;>simp
         |_=>cases e
        |_=>cases e
       |c gs q x=>
        cases x with
        |v y=>
         cases y with
         |bool b=>
          cases e;obtain⟨_,h2,_,h5⟩:=hv;cases q with
          |false=>
           rw[yK (by simp)]at h2;rw[h2]at hget;simp only[hget,undef]at hy;refine⟨by simp[hy],?_⟩;simp only[Bool.false_and,qz2,false_iff];intro hh;have:=hh _ qz7;rw[hy]at this;cases this
          |true=>
           rw[yL rfl]at h2;rw[h2]at hget;simp only[hget,SV.den]at hy;refine⟨by show(yielded ops a.tmps j==some want)=_;rw[hy];cases b<;>cases want<;>rfl,?_⟩
           have hgs:hold ops a gs:=h5.1 rfl
           have hold1:hold ops a ((j,want)::gs)↔b=want:=by
            constructor
            ·intro hh;have:=hh _ qz7;rw[hy]at this;exact yS this
            ·intro hb p hp;rcases yP.1 hp with e1|e1
             ·rw[e1,hy,hb]
             ·exact hgs p e1
           rw[hold1];cases b<;>cases want<;>simp
         |_=>cases e
        |_=>cases e
def side(ops:Array Oper)(lc:Lc)(l:Env)(gs:Gs)(tc:Nat)(w:Bool):Operand->Option Bool
 | .const (.bool b)=>some b
 | .tmp t=>match lk lc l t with
   |some (.s (.v (.bool b)))=>some b
   |some (.c ((j,w')::g) _ (.v (.bool b)))=>match zmS ops j with
     |some d=>bif (Nat.beq d tc&&(w'==w)&&eqG g gs)then some b else(bif zEr ((j,w')::g) gs then some b else none)
     |none=>none
   |_=>none
 |_=>none
def zFv(ops:Array Oper)(lit:List Nat)(lc:Lc)(l:Env)(gs:Gs):Op->Option Value
 | .pick (.tmp tc) x y=>bif litSlot ops tc lit then none else match look (unw lc l gs) tc with
   |some (.v (.bool b))=>match y,x with
     | .const (.bool false),x=>match side ops lc l gs tc true x with|some c=>some (.bool (b&&c))|none=>none
     |y,.const (.bool true)=>match side ops lc l gs tc false y with|some c=>some (.bool (b||c))|none=>none
     |_,_=>none
   |_=>none
 |_=>none
where litSlot (ops:Array Oper) (tc:Nat):List Nat->Bool
 | []=>false
 |j::r=>(match zmS ops j with|some d=>Nat.beq d tc|none=>false)||litSlot ops tc r
theorem zKC{gs:Gs}{tc:Nat}{w':Bool}{x:Operand}{b:Bool}(h:Lx ops N w0 F0 D w F L B ρ lc l a)(hg:hold ops a gs)(htc:a.tmps.getD tc undef= .bool w')(htN:tc<a.tmps.size)
   (e:side ops lc l gs tc w' x=some b):a.eval x= .bool b:=by
 cases x with
 |const v=>cases v<;>simp only[side]at e<;>cases e;rfl
 |global g=>cases e
 |func f=>cases e
 |tmp t=>
   simp only[side]at e;show a.tmps.getD t undef=_;cases hl:lk lc l t with
   |none=>rw[hl]at e;cases e
   |some v=>
     rw[hl]at e;have hv:=h.env t v hl;cases v with
     |s y=>
      cases y with
      |v z=>cases z<;>simp only at e<;>cases e;exact hv.2.1
      |_=>cases e
     |c g q y=>
      cases g with
      |nil=>cases e
      |cons p g=>
       obtain⟨j,w1⟩:=p;cases y with
       |v z=>
        cases z with
        |bool c=>
         simp only at e;obtain⟨_,h2,_,h5⟩:=hv;cases hj:zmS ops j with
         |none=>rw[hj]at e;cases e
         |some d=>
          rw[hj]at e;simp only at e;have fin:q=true->b=c->a.tmps.getD t undef= .bool b:=λhq hb=>by rw[h2,yL hq,hb];rfl
          cases hc:(Nat.beq d tc&&(w1==w')&&eqG g gs)with
          |true=>
           rw[hc]at e;simp only[cond_true]at e;cases e;simp only[qz4]at hc;obtain⟨⟨c1,c2⟩,c3⟩:=hc;have c1:=yC c1;have c2:w1=w':=by simpa using c2
           have c3:=zEH c3;subst c1;subst c2;subst c3;refine fin (h5.2 λp hp=>?_) rfl;rcases yP.1 hp with e1|e1
           ·rw[e1,zqM hj a];have:a.tmps[d]? =some (a.tmps.getD d undef):=by simp[Array.getD,htN]
            rw[this,htc]
           ·exact hg p e1
          |false=>
           rw[hc]at e;simp only[cond_false]at e;obtain⟨hs,e⟩:=zcV e;exact fin (h5.2 λp hp=>hg p (zD6 hs p hp)) e.symm
        |_=>cases e
       |_=>cases e
theorem zNJ{gs:Gs}{lit:List Nat}{v:Value}(h:Lx ops N w0 F0 D w F L B ρ lc l a)(hg:hold ops a gs)(e:zFv ops lit lc l gs o.op=some v):(execOp a.eval o).run P w= .ok (.value v) w:=by
 cases hop:o.op with
 |pick c x y=>
   rw[hop]at e;cases c with
   |tmp tc=>
     simp only[zFv]at e;cases hlit:zFv.litSlot ops tc lit with
     |true=>rw[hlit]at e;cases e
     |false=>
      rw[hlit]at e;simp only[cond_false]at e;cases hl:look (Gw.unw lc l gs) tc with
      |none=>rw[hl]at e;cases e
      |some s=>
       rw[hl]at e;have hX:=h.unw hg;obtain⟨htN,hden⟩:=hX.env tc s hl;have htN':tc<a.tmps.size:=by rw[h.base.size];exact htN
       cases s with
       |v z=>
        cases z with
        |bool b=>
         simp only at e;have hev:a.eval (.tmp tc)= .bool b:=hden
         have run: ∀r,(if b=true then a.eval x else a.eval y)=r->(execOp a.eval o).run P w= .ok (.value r) w:=by
          intro r hr;unfold execOp;rw[hop];simp only[hev,asBool,Sem.run_bind,Sem.run_pure,Result.andThen_ok,pure_bind];rw[<-hr]
         have hand: ∀c,side ops lc l gs tc true x=some c->y= .const (.bool false)->v= .bool (b&&c)->(execOp a.eval o).run P w= .ok (.value v) w:=by
          intro c hs hy hv;subst hy;subst hv;refine run _ ?_;cases b with
          |true=>simpa using zKC h hg hden htN' hs
          |false=>rfl
         have hor: ∀c,side ops lc l gs tc false y=some c->x= .const (.bool true)->v= .bool (b||c)->(execOp a.eval o).run P w= .ok (.value v) w:=by
          intro c hs hx hv;subst hx;subst hv;refine run _ ?_;cases b with
          |true=>rfl
          |false=>simpa using zKC h hg hden htN' hs
         split at e
         ·cases hs:side ops lc l gs tc true x with
          |none=>rw[hs]at e;cases e
          |some c=>rw[hs]at e;cases e;exact hand c hs rfl rfl
         ·cases hs:side ops lc l gs tc false y with
          |none=>rw[hs]at e;cases e
          |some c=>rw[hs]at e;cases e;exact hor c hs rfl rfl
         ·cases e
        |_=>cases e
       |_=>cases e
   |_=>cases e
 |_=>rw[hop]at e;cases e
def zzh(P:Program)(ops:Array Oper)(lit:List Nat)(lc:Lc)(l:Env)(B:List (Option Box))(gs:Gs)(o:Oper):Option SV:=match zFv ops lit lc l gs o.op with
 |some v=>some (.v v)
 |none=>quiet P (unw lc l gs) B o
theorem zHj{gs:Gs}{lit:List Nat}{s:SV}(h:Lx ops N w0 F0 D w F L B ρ lc l a)(hg:hold ops a gs)(e:zzh P ops lit lc l B gs o=some s):(execOp a.eval o).run P w= .ok (.value (s.den ρ)) w/\s.good F/\s.under B.length=true:=by
 unfold zzh at e;cases hp:zFv ops lit lc l gs o.op with
 |some v=>rw[hp]at e;cases e;exact⟨zNJ h hg hp,trivial,rfl⟩
 |none=>rw[hp]at e;exact zOo (h.unw hg) e
def push(N:Nat)(ops:Array Oper)(lc:Lc)(d:Option Tmp)(v:LV):Option Lc:=match d with
 |some d=>bif (Nat.blt d N&&zDb ops d lc&&(match v with| .s _=>true| .c gs _ _=>zzW ops d gs))then some ((d,v)::lc)else none
 |none=>some lc
def orU:Option SV->SV
 |some s=>s
 |none=> .v undef
def batch(P:Program)(N:Nat)(ops:Array Oper)(lit:List Nat):List Oper->Lc->Env->List (Option Box)->Option (Lc×List (Option Box))
 | [],lc,_,B=>some (lc,B)
 |o::r,lc,l,B=>match gd ops lit lc l o.guard with
   |some .yes=>match zzh P ops lit lc l B [] o with
     |some s=>match push N ops lc o.dst (.s s)with|some lc'=>batch P N ops lit r lc' l B|none=>none
     |none=>match zp4 P (unw lc l []) B o.op with
      |some (q,B')=>match push N ops lc o.dst (.s (orU q))with|some lc'=>batch P N ops lit r lc' l B'|none=>none
      |none=>none
   |some .no=>match push N ops lc o.dst (.s (.v undef))with|some lc'=>batch P N ops lit r lc' l B|none=>none
   |some (.sym gs q)=>match zzh P ops lit lc l B gs o with
     |some s=>match push N ops lc o.dst (.c gs q s)with|some lc'=>batch P N ops lit r lc' l B|none=>none
     |none=>none
   |none=>none
theorem Lx.push{d:Option Tmp}{v:LV}{u:Value}{lc':Lc}(h:Lx ops N w0 F0 D w F L B ρ lc l a)(e:push N ops lc d v=some lc')
   (hv:match v with| .s x=>u=x.den ρ/\x.good F/\x.under B.length=true| .c gs q x=>u=(if q=true then x.den ρ else undef)/\(q=true->x.good F/\x.under B.length=true)/\(q=true↔hold ops a gs)):
   Lx ops N w0 F0 D w F L B ρ lc' l (a.put d u):=by
 cases d with
 |none=>cases e;exact h
 |some d=>
   simp only[Gw.push]at e;obtain⟨hc,e⟩:=zcV e;subst e;simp only[qz4]at hc;obtain⟨⟨h1,h2⟩,h3⟩:=hc;refine h.put (yD h1) h2 ?_;cases v with
   |s x=>exact hv
   |c gs q x=>exact⟨hv.1,hv.2.1,hv.2.2,h3⟩
theorem zKP{r:Option SV}(e:zp4 P l B o.op=some (r,B')):B.length<=B'.length:=by
 cases hop:o.op with
 |alloc t=>
   rw[hop]at e;simp only[zp4]at e;cases hi:P.info? t with
   |none=>rw[hi]at e;cases e
   |some i=>
     rw[hi]at e;simp only at e;cases hz:i.zero with
     |none=>rw[hz]at e;cases e
     |some z=>rw[hz]at e;cases e;simp
 |box t x=>
   rw[hop]at e;simp only[zp4]at e;cases hx:ov l x with
   |none=>rw[hx]at e;cases e
   |some s=>
     rw[hx]at e;simp only at e;cases hc:s.cells with
     |none=>rw[hc]at e;cases e
     |some cs=>rw[hc]at e;cases e;simp
 |buildSlice t len ps=>
   rw[hop]at e;simp only[zp4]at e;split at e
   · split at e
     ·split at e
      ·obtain⟨_,e⟩:=zcV e;cases e;simp
      ·cases e
     ·cases e
   · cases e
 |store t x y=>
   rw[hop]at e;simp only[zp4]at e;split at e
   · split at e
     ·obtain⟨_,e⟩:=zcV e;cases e;simp
     ·cases e
   · cases e
 |_=>rw[hop]at e;simp only[zp4]at e;cases e
theorem zoR{lit:List Nat}{Q:Exit->Act->World->Prop}{rest:List Oper}: ∀{os:List Oper} {lc lc':Lc} {B B':List (Option Box)} {ρ:Nat->Nat} {w:World} {a:Act},
   batch P N ops lit os lc l B=some (lc',B')->Lx ops N w0 F0 D w F L B ρ lc l a->(∀ρ' w' a',Lx ops N w0 F0 D w' F L B' ρ' lc' l a'->wpList P ops Q rest a' w')->wpList P ops Q (os++rest) a w
 | [],lc,lc',B,B',ρ,w,a,e,h,hK=>by cases e;exact hK _ _ _ h
 |o::r,lc,lc',B,B',ρ,w,a,e,h,hK=>by
   simp only[batch]at e;show wpList P ops Q (o::(r++rest)) a w;cases hg:gd ops lit lc l o.guard with
   |none=>rw[hg]at e;cases e
   |some g=>
     rw[hg]at e;have hgd:=zHP h hg;cases g with
     |no=>
      simp only at e;cases hp:Gw.push N ops lc o.dst (.s (.v undef))with
      |none=>rw[hp]at e;cases e
      |some lc1=>
       rw[hp]at e;exact zmr hgd (zoR e (h.push hp ⟨rfl,trivial,rfl⟩) hK)
     |sym gs q=>
      simp only at e;cases hs:zzh P ops lit lc l B gs o with
      |none=>rw[hs]at e;cases e
      |some s=>
       rw[hs]at e;simp only at e;cases hp:Gw.push N ops lc o.dst (.c gs q s)with
       |none=>rw[hp]at e;cases e
       |some lc1=>
        rw[hp]at e;cases q with
        |true=>
         have hq:=zHj h (hgd.2.1 rfl) hs;exact zg3 hgd.1 (znp hq.1 (zoR e (h.push hp ⟨by rw[yL rfl],λ_=>hq.2,hgd.2⟩) hK))
        |false=>
         exact zmr hgd.1 (zoR e (h.push hp ⟨by rw[yK (by simp)],(λh=>by cases h),hgd.2⟩) hK)
     |yes=>
      simp only at e;cases hs:zzh P ops lit lc l B [] o with
      |some s=>
       rw[hs]at e;simp only at e;cases hp:Gw.push N ops lc o.dst (.s s)with
       |none=>rw[hp]at e;cases e
       |some lc1=>
        rw[hp]at e;have hq:=zHj h (zvA _ _) hs;exact zg3 hgd (znp hq.1 (zoR e (h.push hp ⟨rfl,hq.2.1,hq.2.2⟩) hK))
      |none=>
       rw[hs]at e;simp only at e;cases hm:zp4 P (Gw.unw lc l []) B o.op with
       |none=>rw[hm]at e;cases e
       |some qB=>
        obtain⟨q,B1⟩:=qB;rw[hm]at e;simp only at e;cases hp:Gw.push N ops lc o.dst (.s (orU q))with
        |none=>rw[hp]at e;cases e
        |some lc1=>
         rw[hp]at e;obtain⟨ρ1,w1,hy,hfine,h1,hρ⟩:=zRr (h.unw (zvA _ _)) hm;have h2:=h.moved (h1.pick .nil) (zKP hm) hρ;cases q with
         |none=>exact zg3 hgd (zzB hy (zoR e (h2.push hp ⟨rfl,trivial,rfl⟩) hK))
         |some s=>exact zg3 hgd (znp hy (zoR e (h2.push hp ⟨rfl,hfine.1,hfine.2⟩) hK))
def keep(l:Env):List Nat->Option Env
 | []=>some []
 |t::r=>match look l t,keep l r with|some s,some l'=>some ((t,s)::l')|_,_=>none
theorem zAb{l:Env}: ∀{ks:List Nat} {l':Env},keep l ks=some l'->zzn l l'
 | [],l',e=>by cases e;exact .nil
 |t::r,l',e=>by
   simp only[keep]at e;cases ht:look l t with
   |none=>rw[ht]at e;cases e
   |some s=>
     cases hr:keep l r with
     |none=>rw[ht,hr]at e;cases e
     |some l2=>rw[ht,hr]at e;cases e;exact .cons ht (zAb hr)
def run(P:Program)(N:Nat)(ops:Array Oper)(lit:List Nat)(os:List Oper)(ks:List Nat)(l:Env)(B:List (Option Box)):Option (Env×List (Option Box)):=match batch P N ops lit os [] l B with
 |some (lc,B')=>match keep (unw lc l []) ks with|some l'=>some (l',B')|none=>none
 |none=>none
theorem Cx.part{os:List Oper}{Q:Exit->Act->World->Prop}{l':Env}(h:Cx N w0 F0 D w F L B ρ l a)(lit:List Nat)(n:Nat)(ks:List Nat)(e:run P N ops lit (os.take n) ks l B=some (l',B'))
   (hK: ∀ρ' w' a',Cx N w0 F0 D w' F L B' ρ' l' a'->wpList P ops Q (os.drop n) a' w'):wpList P ops Q os a w:=by
 unfold run at e;cases hb:batch P N ops lit (os.take n) [] l B with
 |none=>rw[hb]at e;cases e
 |some r=>
   obtain⟨lc,B1⟩:=r;rw[hb]at e;simp only at e;cases hk:keep (Gw.unw lc l []) ks with
   |none=>rw[hk]at e;cases e
   |some l1=>
     rw[hk]at e;cases e;have:=zoR hb (Lx.start h) (rest:=os.drop n) (Q:=Q) (λρ' w' a' h'=>hK ρ' w' a' ((h'.unw (zvA _ _)).pick (zAb hk)));rwa [List.take_append_drop]at this
theorem Cx.region{id:Nat}{Q:Exit->Act->World->Prop}{l':Env}(h:Cx N w0 F0 D w F L B ρ l a)(lit:List Nat)(ks:List Nat)(e:run P N ops lit ops.toList ks l B=some (l',B'))
   (hK: ∀ρ' w' a',Cx N w0 F0 D w' F L B' ρ' l' a'->Q .normal a' w'):(Code.region id ops false).wp P Q a w:=
 wp_region_list (by
   have:=h.part (ops:=ops) (os:=ops.toList) (Q:=Q) lit ops.toList.length ks (by rw[List.take_length];exact e) (λρ' w' a' h'=>by rw[List.drop_length];exact hK ρ' w' a' h')
   exact this)
end
section
variable {P:Program} {N:Nat} {w0:World} {F0:Heap} {D:Own} {w:World} {F:Heap} {L:List SP} {B B':List (Option Box)} {ρ:Nat->Nat} {l:Env} {a:Act} {o:Oper} {Q:Exit->Act->World->Prop}
def after(l:Env):Option Tmp->SV->Env
 |some d,s=>(d,s)::l
 |none,_=>l
def zt4(N:Nat):Option Tmp->Bool
 |some d=>Nat.blt d N
 |none=>true
theorem Cx.put'(h:Cx N w0 F0 D w F L B ρ l a){d:Option Tmp}{s:SV}(hd:zt4 N d=true)(hg:s.good F)(hb:s.under B.length=true):Cx N w0 F0 D w F L B ρ (after l d s) (a.put d (s.den ρ)):=by
 cases d with
 |none=>exact h
 |some d=>exact h.put (yD hd) hg hb
def number:Nat->List SV->Env
 |_,[]=>[]
 |k,s::r=>(k,s)::number (k+1) r
theorem zxU: ∀(ss:List SV) (k t:Nat) (s:SV),look (number k ss) t=some s->k<=t/\ss[t -k]? =some s
 | [],_,_,_,h=>by cases h
 |x::r,k,t,s,h=>by
   simp only[number,look]at h;cases hk:Nat.beq k t with
   |true=>rw[hk]at h;simp at h;subst h;have:=yC hk;subst this;simp
   |false=>
     rw[hk]at h;simp at h;obtain⟨h1,h2⟩:=zxU r (k+1) t s h;refine⟨by omega,?_⟩;obtain⟨j,rfl⟩: ∃j,t=k+1+j:=⟨t - (k+1),by omega⟩
     have e1:k+1+j - (k+1)=j:=by omega
     have e2:k+1+j -k=j+1:=by omega
     rw[e1]at h2;rw[e2];simpa using h2
theorem Cx.enter{args:Array Value}{ntmps:Nat}(hN:ntmps=N)(ss:List SV)(hst:St w F D w F (boxes ρ 0 B++L))(hargs:args=(SV.zaV ρ ss).toArray)(hg:SV.zbs F ss)(hu:SV.zbE B.length ss=true)
   (hb: ∀b,some b∈B->SV.zbs F b.cells/\SV.zbE B.length b.cells=true) (hle:ss.length<=N) (hfix: ∀k b,D.known[k]? =some b->k<B.length/\ρ k=b):
   Cx N w F D w F L B ρ (number 0 ss) {tmps:=args++Array.replicate (ntmps -args.size) undef,defers:=[]}:=by
 subst hN;subst hargs;have hl:=zdg ρ ss;refine⟨by simp[hl];omega,rfl,λt s e=>?_,λt s e=>?_,hb,hfix,hst⟩
 · obtain⟨_,h2⟩:=zxU ss 0 t s e;have hlt:=(qz0 h2).1;simp only[Nat.sub_zero]at h2 hlt;refine⟨by omega,?_⟩;rw[Array.getD_eq_getD_getElem?,Array.getElem?_append_left (by simp[hl];exact hlt)]
   simp[zoP,h2]
 · obtain⟨_,h2⟩:=zxU ss 0 t s e;have hm:=List.mem_of_getElem? h2;exact⟨SV.zcW.1 hg s hm,SV.zdd.1 hu s hm⟩
theorem Cx.cond{c:Operand}{x y:Code}{b:Bool}(h:Cx N w0 F0 D w F L B ρ l a)(hc:ov l c=some (.v (.bool b)))(ht:b=true->x.wp P Q a w)(hf:b=false->y.wp P Q a w):(Code.cond c x y).wp P Q a w:=
 wp_cond_split (h.eval hc) ht hf
def lefts(l:Env):List ResultVar->Option (List SV)
 | []=>some []
 | .tmp t::r=>match look l t,lefts l r with|some s,some ss=>some (s::ss)|_,_=>none
 | .cell .. ::_=>none
def zuz:List Value->Value
 | [v]=>v
 |vs=> .tuple vs.toArray
theorem zHh(h:Cx N w0 F0 D w F L B ρ l a): ∀{rs:List ResultVar} {ss:List SV},lefts l rs=some ss->
   (rs.mapM (m:=Sem) λr=>match r with| .tmp t=>pure (a.tmps.getD t undef)| .cell ad ty=>(do loadVar ty (<-asAddr (a.tmps.getD ad undef)))).run P w= .ok (SV.zaV ρ ss) w
 | [],ss,e=>by cases e;rfl
 | .tmp t::r,ss,e=>by
   simp only[lefts]at e;cases ht:look l t with
   |none=>rw[ht]at e;cases e
   |some s=>
     cases hr:lefts l r with
     |none=>rw[ht,hr]at e;cases e
     |some ss'=>
      rw[ht,hr]at e;cases e;have ih:=zHh h hr;rw[List.mapM_cons];simp only[pure_bind,Sem.run_bind,ih,Result.andThen_ok,(h.env t s ht).2,SV.zaV];rfl
 | .cell .. ::r,ss,e=>by cases e
theorem zJF(h:Cx N w0 F0 D w F L B ρ l a){fn:Func}{ss:List SV}(hl:lefts l fn.results.toList=some ss):(results fn a.tmps).run P w= .ok (zuz (SV.zaV ρ ss)) w:=by
 unfold results;rw[Array.mapM_eq_mapM_toList];have h1:=zHh (P:=P) h hl;simp only[bind_map_left,Sem.run_bind];refine(congrArg (λr=>Result.andThen r _) h1).trans ?_;simp only[Result.andThen_ok,Sem.run_pure];congr 1;cases hd:SV.zaV ρ ss with
 |nil=>rfl
 |cons x r=>cases r with
   |nil=>rfl
   |cons y r=>simp[zuz]
theorem Cx.leave{fn:Func}{R:Ending->World->Prop}{ss:List SV}(h:Cx N w0 F0 D w F L B ρ l a)(hl:lefts l fn.results.toList=some ss)(hR:R (.returned (zuz (SV.zaV ρ ss))) w):bodyPost P fn R .ret a w:=
 ⟨h.nodef,_,zJF h hl,hR⟩
theorem zK3{body:Code}(h: ∀LW:Act->World->Prop,(∀a w,body.wp P (Exit.then LW Q) a w->LW a w)->LW a w):(Code.loop body).wp P Q a w:=by
 intro b k cs
 have key:=h (λa w=>∀(b:Frame) (k:List Item) (cs:List Frame),∃e a' w',Q e a' w'/\Arrives P (lone (b.at a (.code body:: .inLoop body::k)) cs w) b k cs e a' w') (λa w hb b k cs=>by
   obtain⟨e,a₁,w₁,hq,harr⟩:=hb b (.inLoop body::k) cs;cases e with
   |normal=>
     obtain⟨e₂,a₂,w₂,hq₂,harr₂⟩:=hq b k cs;exact⟨e₂,a₂,w₂,hq₂,.of_steps (Steps.trans harr (.one step_inLoop)) harr₂⟩
   |exit id=>exact⟨_,a₁,w₁,hq,.pass (x:= .inLoop body) rfl (λ_ _=> .inl (by simp)) harr⟩
   |goto l=>exact⟨_,a₁,w₁,hq,.pass (x:= .inLoop body) rfl (λ_ _=> .inl (by simp)) harr⟩
   |ret=>exact⟨_,a₁,w₁,hq,.pass (x:= .inLoop body) rfl (λ_ _=> .inl (by simp)) harr⟩
   |panic ch=>exact⟨_,a₁,w₁,hq,.pass (x:= .inLoop body) rfl (λ_ _=> .inl (by simp)) harr⟩
   |outgrown=>exact⟨_,a₁,w₁,hq,.pass (x:= .inLoop body) rfl (λ_ _=> .inl (by simp)) harr⟩)
 obtain⟨e,a',w',hq,harr⟩:=key b k cs;exact⟨e,a',w',hq,.of_steps (.one step_loop) harr⟩
structure zfp (P:Program) (f:FuncId):Prop where
 out: ∃fn,P.funcs[f]? =some fn/\(fn.name== "runtime.NumGoroutine")=false/\fn.body.isNone=false
theorem zfp.run{f:FuncId}(h:zfp P f)(args:Array Value)(w:World):(callFunc f args).run P w= .ok (.enter f args) w:=by
 obtain⟨fn,h1,h2,h3⟩:=h.out
 have e:(callFunc f args).run P w=(match P.funcs[f]? with
   |none=>stuck "call: no such function"
   |some fn=>
     if fn.name== "runtime.NumGoroutine" then pure .numGoroutine
     else if fn.body.isNone then(do
      mark (.extern f)
      if let some e:=Extern.findNext fn then return<-e args
      match Extern.find fn with
      |some e=>pure (.value (<-e args))
      |none=>
       if fn.name.endsWith ".init"&& !fn.name.startsWith "("&& !fn.name.startsWith "gosem." then pure (.value (.tuple #[]))
       else unsupported (.extern fn.name))
     else pure (.enter f args):Sem Next).run P w:=rfl
 rw[e,h1];simp only[h2,h3];rfl
def zfI(w:World)(F:Heap)(post:SV->Prop)(e:Ending)(w':World):Prop:=
 ∃F' s,e= .returned (s.den λ_=>0)/\s.good F'/\s.under 0=true/\St w F No w' F' []/\post s
def ovs(l:Env):List Operand->Option (List SV)
 | []=>some []
 |x::r=>match ov l x,ovs l r with|some s,some ss=>some (s::ss)|_,_=>none
theorem Cx.zPs(h:Cx N w0 F0 D w F L B ρ l a): ∀{xs:List Operand} {ss:List SV},ovs l xs=some ss->xs.map a.eval=SV.zaV ρ ss
 | [],ss,e=>by cases e;rfl
 |x::r,ss,e=>by
   simp only[ovs]at e;cases hx:ov l x with
   |none=>rw[hx]at e;cases e
   |some s=>
     cases hr:ovs l r with
     |none=>rw[hx,hr]at e;cases e
     |some ss'=>rw[hx,hr]at e;cases e;simp only[List.map_cons,SV.zaV,h.eval hx,h.zPs hr]
theorem Cx.zHU(h:Cx N w0 F0 D w F L B ρ l a): ∀{xs:List Operand} {ss:List SV},ovs l xs=some ss->SV.zbs F ss
 | [],ss,e=>by cases e;trivial
 |x::r,ss,e=>by
   simp only[ovs]at e;cases hx:ov l x with
   |none=>rw[hx]at e;cases e
   |some s=>
     cases hr:ovs l r with
     |none=>rw[hx,hr]at e;cases e
     |some ss'=>rw[hx,hr]at e;cases e;exact⟨(h.zjE hx).1,h.zHU hr⟩
theorem zPe{f:FuncId}{xs:Array Operand}{ts:Array TypeId}(hop:o.op= .call {callee:= .value (.func f),args:=xs,argTypes:=ts})(hc:zfp P f):
   (execOp a.eval o).run P w= .ok (.enter f (xs.map a.eval)) w:=by
 unfold execOp;rw[hop];simp only[resolve,Sem.run_bind,Act.eval,Deferred.ofValue,Sem.run_pure,Result.andThen_ok,invoke,Array.empty_append,Array.append_empty];exact hc.run _ w
theorem SV.zKS{s:SV}(h:s.under 0=true)(ρ ρ':Nat->Nat):s.den ρ=s.den ρ':=SV.zyq (n:=0) (λk hk=>absurd hk (Nat.not_lt_zero k)) h
theorem Cx.zER{ops:Array Oper}{rest:List Oper}{f:FuncId}{xs:Array Operand}{ts:Array TypeId}{lit:List Nat}{ss:List SV}{post:SV->Prop}(h:Cx N w0 F0 D w F L B ρ l a)
   (hg:gd ops lit [] l o.guard=some .yes) (hop:o.op= .call {callee:= .value (.func f),args:=xs,argTypes:=ts}) (hd:zt4 N o.dst=true) (hc:zfp P f) (hss:ovs l xs.toList=some ss)
   (ss':List SV) (hden:SV.zaV ρ ss=SV.zaV ρ ss') (hgood:SV.zbs F ss->SV.zbs F ss')
   (hcalls:F.Sub w->F0.Le F->SV.zbs F ss'->Calls P f (SV.zaV ρ ss').toArray w (zfI w F post))
   (hK: ∀s F' w' a',post s->Cx N w0 F0 D w' F' L B ρ (after l o.dst s) a'->wpList P ops Q rest a' w'):wpList P ops Q (o::rest) a w:=by
 refine zg3 (zHP (Lx.start h) hg) ?_;unfold Oper.wp;rw[zPe hop hc]
 have hargs:xs.map a.eval=(SV.zaV ρ ss).toArray:=by
   rw[<-h.zPs hss,<-Array.toList_map]
 rw[hargs,hden];refine(hcalls h.st.view h.st.le (hgood (h.zHU hss))).mono λe w' hr=>?_
 obtain⟨F',s,rfl,hgs,hu,hst,hp⟩:=hr;show wpList P ops Q rest (a.put o.dst (s.den λ_=>0)) w';rw[SV.zKS hu (λ_=>0) ρ];have h1:=h.st.swap.swap;have h2:St w0 F0 D w F ((boxes ρ 0 B++L)++[]):=by rw[List.append_nil];exact h.st
 obtain⟨p,hp0⟩:=h2.call;have h3:=(hp0 []).2 (hst.widen ⟨p,[]⟩);rw[List.append_nil]at h3;exact hK s F' w' _ hp ((h.world hst.le h3).put' hd hgs (SV.zqi (Nat.zero_le _) hu))
def zFR:List SV->SV
 | [s]=>s
 |ss=> .tup ss
theorem zOP(ρ:Nat->Nat)(ss:List SV):(zFR ss).den ρ=zuz (SV.zaV ρ ss):=by
 match ss with
 | []=>rfl
 | [s]=>rfl
 |s::t::r=>rfl
theorem zFL(h:Cx N w0 F0 D w F L B ρ l a): ∀{rs:List ResultVar} {ss:List SV},lefts l rs=some ss->SV.zbs F ss
 | [],ss,e=>by cases e;trivial
 | .tmp t::r,ss,e=>by
   simp only[lefts]at e;cases ht:look l t with
   |none=>rw[ht]at e;cases e
   |some s=>
     cases hr:lefts l r with
     |none=>rw[ht,hr]at e;cases e
     |some ss'=>rw[ht,hr]at e;cases e;exact⟨(h.good t s ht).1,zFL h hr⟩
 | .cell .. ::r,ss,e=>by cases e
theorem Cx.zGl{fn:Func}{post:SV->Prop}{ss:List SV}(h:Cx N w0 F0 No w F L B ρ l a)(hl:lefts l fn.results.toList=some ss)(hu:SV.zbE 0 ss=true)(hp:post (zFR ss)):bodyPost P fn (zfI w0 F0 post) .ret a w:=by
 refine h.leave hl ⟨F,zFR ss,?_,?_,?_,?_,hp⟩
 · rw[zOP,<-SV.zoW (n:=0) (ρ:=λ_=>0) (ρ':=ρ) (λk hk=>absurd hk (Nat.not_lt_zero k)) hu]
 · have hg:=zFL h hl
   match ss,hg with
   | [],_=>exact trivial
   | [s],g=>exact g.1
   |s::t::r,g=>simpa [zFR,SV.good]using g
 · match ss,hu with
   | [],_=>rfl
   | [s],g=>simpa [zFR,SV.zbE]using g
   |s::t::r,g=>simpa [zFR,SV.under]using g
 · have:=h.st;have h1:St w0 F0 No w F ((boxes ρ 0 B++L)++[]):=by rw[List.append_nil];exact this
   exact h1.only
def zz3(n:Nat):Env->Bool
 | []=>true
 | (_,s)::r=>s.under n&&zz3 n r
def zu4(n:Nat):List (Option Box)->Bool
 | []=>true
 |none::r=>zu4 n r
 |some b::r=>SV.zbE n b.cells&&zu4 n r
theorem zAX{n:Nat}: ∀{l:Env} {t:Nat} {s:SV},zz3 n l=true->look l t=some s->s.under n=true
 | [],_,_,_,e=>by cases e
 | (k,x)::r,t,s,h,e=>by
   simp only[zz3,qz4]at h;simp only[look]at e;cases hk:Nat.beq k t with
   |true=>rw[hk]at e;simp only[cond_true]at e;cases e;exact h.1
   |false=>rw[hk]at e;exact zAX (l:=r) h.2 e
theorem zuL{n:Nat}: ∀{B:List (Option Box)} {b:Box},zu4 n B=true->some b∈B->SV.zbE n b.cells=true
 | [],_,_,h=>by cases h
 |none::r,b,h,hb=>by
   rcases yP.1 hb with e|e
   · cases e
   · exact zuL (B:=r) h e
 |some c::r,b,h,hb=>by
   simp only[zu4,qz4]at h;rcases yP.1 hb with e|e
   · cases e;exact h.1
   · exact zuL (B:=r) h.2 e
theorem Cx.shrink(h:Cx N w0 F0 D w F L B ρ l a)(n:Nat){B':List (Option Box)}(hB:B.take n=B')(hn:n<=B.length)(hl:zz3 n l=true)(hb:zu4 n B'=true)(hD:D.known.length<=n):Cx N w0 F0 D w F L B' ρ l a:=by
 subst hB;have hlen:(B.take n).length=n:=by rw[List.length_take];omega
 refine⟨h.size,h.nodef,h.env,λt s e=>⟨(h.good t s e).1,by rw[hlen];exact zAX hl e⟩,λb hb'=>⟨(h.bgood b (List.mem_of_mem_take hb')).1,by rw[hlen];exact zuL hb hb'⟩,λk b e=>⟨by rw[hlen];exact Nat.lt_of_lt_of_le (qz0 e).1 hD,(h.fix k b e).2⟩,?_⟩
 have h1:=h.st
 have hsplit:boxes ρ 0 B=boxes ρ 0 (B.take n)++boxes ρ n (B.drop n):=by
   conv=>lhs;rw[<-List.take_append_drop n B]
   rw[zvb,hlen,Nat.zero_add]
 rw[hsplit]at h1;obtain⟨x,ha,hs,hf,hd⟩:=h1.own;obtain⟨g,k,a1,a2,c,rfl⟩:=all_append.1 ha;obtain⟨g1,g2,b1,b2,c1,rfl⟩:=all_append.1 a1;obtain⟨c3,c4⟩:=Heap.zgT.1 c;obtain⟨f1,f2⟩:=Heap.zcq.1 hf;obtain⟨f3,f4⟩:=Heap.zcq.1 f1;refine⟨h1.os,h1.tape,h1.output,h1.size,h1.frame,h1.le,h1.new,h1.view,g1.join k,all_append.2 ⟨g1,k,b1,a2,c3,rfl⟩,(hs.zfH.zfH).join (hs.zim c),Heap.zcq.2 ⟨f3,f2⟩,λb o e=>?_⟩;rcases Heap.join_some e with e|e
 · exact hd b o (Heap.zh1 (Heap.zh1 e))
 · exact hd b o (Heap.zeT c e)
theorem Cx.ziv{id:Nat}{y:Code}{l':Env}(h:Cx N w0 F0 D w F L B ρ l a){ops:Array Oper}(lit:List Nat)(ks:List Nat)(e:run P N ops lit ops.toList ks l B=some (l',B'))
   (hK: ∀ρ' w' a',Cx N w0 F0 D w' F L B' ρ' l' a'->y.wp P Q a' w'):(Code.seq (Code.region id ops false) y).wp P Q a w:=
 wp_seq (h.region lit ks e hK)
end
structure Kind (α:Type) where
 sz:Nat
 Y:Type
 f:α->Y->List SV
 holds:Heap->α->List Value->Prop
 mono: ∀{F F' x cs},F.Le F'->holds F x cs->holds F' x cs
 opn: ∀{F x cs},holds F x cs->∃y,SV.zct (f x y)=some cs/\SV.zbs F (f x y)
 shut: ∀{F x y cs},SV.zct (f x y)=some cs->SV.zbs F (f x y)->holds F x cs
 closed: ∀x y,SV.zbE 0 (f x y)=true
 len: ∀x y,(f x y).length=sz
 ones: ∀x y,SV.ones (f x y)=true
theorem zmj: ∀{l:List SV} {cs:List Value},SV.zct l=some cs->cs.length=l.length
 | [],_,h=>by cases h;rfl
 |s::l,cs,h=>by
  simp only[SV.zct]at h;cases hs:s.plain with
  |none=>rw[hs]at h;cases h
  |some x=>
   cases hl:SV.zct l with
   |none=>rw[hs,hl]at h;cases h
   |some r=>rw[hs,hl]at h;cases h;simp[zmj hl]
theorem Kind.length{α:Type}(d:Kind α){F:Heap}{x:α}{cs:List Value}(h:d.holds F x cs):cs.length=d.sz:=by
 obtain⟨y,h1,_⟩:=d.opn h;rw[zmj h1,d.len]
theorem Kind.one{α:Type}(d:Kind α){F:Heap}{x:α}{cs:List Value}(h:d.holds F x cs): ∀v∈cs,v.oneCell'=true:=by
 obtain⟨y,h1,_⟩:=d.opn h;rw[<-SV.zms (λ_=>0) h1];exact SV.zwB _ (d.ones x y)
def zed:Kind UInt8 where
 sz:=1
 Y:=Unit
 f x _:=[.v (.int .u8 (x.toNat:Int))]
 holds _ x cs:=cs=[.int .u8 (x.toNat:Int)]
 mono _ h:=h
 opn h:=⟨(),by rw[h];rfl,trivial,trivial⟩
 shut h _:=by cases h;rfl
 closed _ _:=rfl
 len _ _:=rfl
 ones _ _:=rfl
abbrev Str:=List UInt8
def Row{α:Type}(F:Heap)(d:Kind α)(A:Option Addr)(xs:List α):Prop:=
 xs=[]\/∃b o,A=some ⟨b,o,none⟩/\∀i x,xs[i]? =some x->∃cs,d.holds F x cs/\zoo F b (o+i*d.sz) cs
theorem Row.mono{α:Type}{F F':Heap}{d:Kind α}{A:Option Addr}{xs:List α}(h:F.Le F'):Row F d A xs->Row F' d A xs
 | .inl e=> .inl e
 | .inr ⟨b,o,e,g⟩=> .inr ⟨b,o,e,λi x hx=>let⟨cs,h1,h2⟩:=g i x hx;⟨cs,d.mono h h1,zmq h h2⟩⟩
def slP{α:Type}(d:Kind α)(xs:List α)(A:Option Addr)(c:Nat):PP where
 holds F:=xs.length<=c/\Row F d A xs
 mono h a:=⟨a.1,a.2.mono h⟩
def SV.sl{α:Type}(d:Kind α)(xs:List α)(A:Option Addr)(c:Nat):SV:= .p (slP d xs A c) (.slice A xs.length c)
theorem zR5{α:Type}(d:Kind α)(F:Heap):(SV.sl d ([]:List α) none 0).good F:=⟨yJ _,.inl rfl⟩
def zas{α:Type}(xs:List α)(i:Int):Option α:=if 0<=i then xs[i.toNat]? else none
def zbc(s:Str)(i:Int):Option Int:=if 0<=i then(s[i.toNat]?).map (λb=>(b.toNat:Int))else none
def zbv{α:Type}(s:List α)(lo hi:Int):Option (List α):=if 0<=lo/\lo<=hi/\hi<=s.length then some ((s.drop lo.toNat).take (hi.toNat -lo.toNat))else none
def zmy(s t:Str):Option Str:=if s.length+t.length<=4611686018427387904 then some (s++t)else none
def room(n:Nat):Option Unit:=if n<=274877906944 then some ()else none
section
variable {P:Program} {N:Nat} {w0:World} {F0:Heap} {D:Own} {w:World} {F:Heap} {L:List SP} {B B':List (Option Box)} {ρ:Nat->Nat} {l:Env} {a:Act} {o:Oper} {ops:Array Oper} {lit:List Nat} {rest:List Oper} {Q:Exit->Act->World->Prop}
theorem Cx.zDc{w':World}{F':Heap}{L':List SP}{B':List (Option Box)}{ρ':Nat->Nat}{s:SV}(h:Cx N w0 F0 D w F L B ρ l a)(hg:gd ops lit [] l o.guard=some .yes)(hd:zt4 N o.dst=true)
  (hrun:(execOp a.eval o).run P w= .ok (.value (s.den ρ')) w') (h':Cx N w0 F0 D w' F' L' B' ρ' l a) (hgood:s.good F') (hu:s.under B'.length=true)
  (hK: ∀a',Cx N w0 F0 D w' F' L' B' ρ' (after l o.dst s) a'->wpList P ops Q rest a' w'):wpList P ops Q (o::rest) a w:=
 zg3 (zHP (Lx.start h) hg) (znp hrun (hK _ (h'.put' hd hgood hu)))
theorem zGT(l:Str)(n:Nat):(⟨⟨l⟩⟩:ByteArray)[n]? =l[n]? :=by
 rw[getElem?_def,getElem?_def];rfl
theorem Cx.zE3{T:TypeId}{x i:Operand}{s:Str}{k:IntKind}{n b:Int}(h:Cx N w0 F0 D w F L B ρ l a)(hg:gd ops lit [] l o.guard=some .yes)(hd:zt4 N o.dst=true)
  (hop:o.op= .index T x i) (hT:P.underlying T=some .string) (hx:ov l x=some (.v (.string ⟨⟨s⟩⟩))) (hi:ov l i=some (.v (.int k n))) (hb:zbc s n=some b)
  (hK: ∀a',Cx N w0 F0 D w F L B ρ (after l o.dst (.v (.int .u8 b))) a'->wpList P ops Q rest a' w):wpList P ops Q (o::rest) a w:=by
 refine h.zDc hg hd (s:= .v (.int .u8 b)) (ρ':=ρ) ?_ h trivial rfl hK;have e1:a.eval x= .string ⟨⟨s⟩⟩:=h.eval hx;have e2:a.eval i= .int k n:=h.eval hi;unfold zbc at hb;split at hb
 ·rename_i h0;obtain⟨c,hc,rfl⟩:=Option.map_eq_some_iff.1 hb;unfold execOp;rw[hop];simp only[e1,e2,Instr.index,asIntOf,Sem.run_bind,Sem.run_pure,Result.andThen_ok,run_underlying hT,h0,yB,zGT,hc,SV.den,pure_bind]
 ·cases hb
def bnd(l:Env):Option Operand->Option (Option Int)
 |none=>some none
 |some x=>match ov l x with|some (.v (.int _ n))=>some (some n)|_=>none
theorem zIE(h:Cx N w0 F0 D w F L B ρ l a){x:Option Operand}{r:Option Int}(e:bnd l x=some r):
  (x=none/\r=none)\/∃y k n,x=some y/\r=some n/\a.eval y= .int k n:=by
 cases x with
 |none=>cases e;exact .inl ⟨rfl,rfl⟩
 |some y=>
  right;simp only[bnd]at e;cases hy:ov l y with
  |none=>rw[hy]at e;cases e
  |some s=>
   rw[hy]at e;cases s with
   |v z=>cases z<;>simp only at e<;>cases e;exact⟨y,_,_,rfl,rfl,h.eval hy⟩
   |_=>cases e
theorem zdo{k:IntKind}{n:Int}{y:Nat}(h0:0<=n)(h1:n<=y)(c:BoundsCode)(w:World):(Instr.sliceBound (.int k n) y c).run P w= .ok n.toNat w:=by
 simp[Instr.sliceBound,asIntOf,h0,h1]
theorem zE8{lo hi:Option Operand}{ol oh:Option Int}{len cap:Nat}{b:Bool}(h:Cx N w0 F0 D w F L B ρ l a)(hl:bnd l lo=some ol)(hh:bnd l hi=some oh)
  (h0:0<=ol.getD 0) (h1:ol.getD 0<=oh.getD len) (h2:oh.getD len<=len) (hlc:len<=cap):
  (Instr.sliceBounds b len cap (lo.map a.eval) (hi.map a.eval) none).run P w= .ok ((ol.getD 0).toNat,(oh.getD len).toNat,cap) w:=by
 rcases zIE h hl with⟨rfl,rfl⟩| ⟨x,k,n,rfl,rfl,ex⟩<;>rcases zIE h hh with⟨rfl,rfl⟩| ⟨y,k',m,rfl,rfl,ey⟩
 ·simp[Instr.sliceBounds]
 ·simp only[Option.getD_none,Option.getD_some]at h0 h1 h2;have hm:(m:Int)<=cap:=by omega
  simp[Instr.sliceBounds,ey,zdo h1 hm]
 ·simp only[Option.getD_none,Option.getD_some]at h0 h1 h2;simp[Instr.sliceBounds,ex,zdo h0 h1]
 ·simp only[Option.getD_none,Option.getD_some]at h0 h1 h2;have hm:(m:Int)<=cap:=by omega
  have hm0:0<=m:=by omega
  have hn:n<=((m.toNat:Nat):Int):=by omega
  simp[Instr.sliceBounds,ex,ey,zdo hm0 hm,zdo h0 hn]
theorem zHo(s:Str)(i j:Nat):(⟨⟨s⟩⟩:ByteArray).extract i j=⟨⟨(s.drop i).take (j -i)⟩⟩:=by
 apply ByteArray.ext;rw[ByteArray.data_extract];simp[List.extract_eq_take_drop]
theorem Row.cut{α:Type}{d:Kind α}{xs:List α}{A:Option Addr}{c i m:Nat}(h:Row F d A xs)(hc:xs.length<=c)(hi:i<=xs.length):
  Row F d (if c=i then A else A.map (·.add (i*d.sz))) ((xs.drop i).take m):=by
 rcases h with rfl| ⟨b,off,rfl,hcells⟩
 ·left;simp
 ·by_cases he:(xs.drop i).take m=[]
  ·exact .inl he
  ·right
   have hlt:i<xs.length:=by
    rcases Nat.lt_or_ge i xs.length with g|g
    ·exact g
    ·exfalso;apply he;rw[List.drop_of_length_le g];simp
   have hne:c≠i:=by omega
   refine⟨b,off+i*d.sz,by simp[hne,zgN],λj x hx=>?_⟩;rw[List.getElem?_take]at hx;split at hx
   ·rw[List.getElem?_drop]at hx;obtain⟨cs,h1,h2⟩:=hcells _ _ hx;refine⟨cs,h1,?_⟩;rw[Nat.add_mul,<-Nat.add_assoc]at h2;exact h2
   ·cases hx
end
theorem maxLen_eq:maxLen=9223372036854775807:=by simp only[maxLen]
def rowIs{α:Type}(F:Heap)(d:Kind α)(cells:List Value)(xs:List α):Prop:=
 ∀i x,xs[i]? =some x->∃cs,d.holds F x cs/\∀j v,cs[j]? =some v->cells[i*d.sz+j]? =some v
theorem rowIs.mono{α:Type}{F F':Heap}{d:Kind α}{cells:List Value}{xs:List α}(h:F.Le F')(r:rowIs F d cells xs):rowIs F' d cells xs:=
 λi x hx=>let⟨cs,h1,h2⟩:=r i x hx;⟨cs,d.mono h h1,h2⟩
def zhc{α:Type}(e:TypeId)(d:Kind α)(A:Option Addr)(c:Nat)(xs:List α):SP where
 holds F h:=(A=none/\c=0/\xs=[]/\h=Heap.nil)\/
  ∃b cells,A=some ⟨b,0,none⟩/\h=Heap.one b (.cells cells e (0,0))/\xs.length<=c/\c<=maxLen/\cells.size=c*d.sz/\rowIs F d cells.toList xs
 mono hle:=fun
  | .inl r=> .inl r
  | .inr ⟨b,cells,h1,h2,h3,h4,h5,h6⟩=> .inr ⟨b,cells,h1,h2,h3,h4,h5,h6.mono hle⟩
theorem St.replace{w0 w w':World}{F0 F:Heap}{D:Own}{L:List SP}{i:Nat}{A0 A1:SP}(h:St w0 F0 D w F L)(hi:L[i]? =some A0)
  (hnew: ∀g0,A0.holds F g0->g0.Sub w->w'.os=w.os/\w'.tape=w.tape/\w'.output=w.output/\w.heap.size<=w'.heap.size/\(∀x,x<w.heap.size->g0 x=none->w'.heap[x]? =w.heap[x]?)/\
   ∃g1,A1.holds F g1/\g1.Sub w'/\∀x o,g1 x=some o->g0 x≠none\/w.heap.size<=x):St w0 F0 D w' F (L.set i A1):=by
 obtain⟨x,a,s,f,d⟩:=h.own;obtain⟨g,k,ha,c,rfl,ae,put⟩:=zma hi a;obtain⟨f1,f2⟩:=Heap.zcq.1 f;have sg:g.Sub w:=s.zfH;have sk:k.Sub w:=s.zim c;obtain⟨h1,h2,h3,h4,h5,g1,h6,h7,h8⟩:=hnew g ha sg;have stays: ∀{m:Heap},m.Sub w->(∀x o,m x=some o->g x=none)->m.Sub w':=λ{m} hm hd=>⟨λx o e=>by rw[h5 x (hm.lt e) (hd x o e)];exact hm.out x o e⟩
 have kg: ∀x o,k x=some o->g x=none:=λx o e=>by rcases c.out x with e'|e';exact e';rw[e]at e';cases e'
 have Fg: ∀x o,F x=some o->g x=none:=λx o e=>by rcases f1.out x with e'|e';rw[e]at e';cases e';exact e'
 refine⟨h1.trans h.os,h2.trans h.tape,h3.trans h.output,Nat.le_trans h.size h4,?_,h.le,h.new,stays h.view Fg,g1.join k,put (.refl F) h6 ae ?_,h7.join (stays sk kg),Heap.zcq.2 ⟨?_,f2⟩,?_⟩
 ·intro b hb hd;rw[h5 b (Nat.lt_of_lt_of_le hb h.size) ?_]
  ·exact h.frame b hb hd
  ·cases e:g b with
   |none=>rfl
   |some o=>rcases d b o (Heap.zh1 e)with e2|e2;exact absurd e2 hd;omega
 ·refine⟨λb=>?_⟩;cases e:g1 b with
  |none=>exact .inl rfl
  |some o=>
   right;rcases h8 b o e with e2|e2
   ·rcases c.out b with e3|e3
    ·exact absurd e3 e2
    ·exact e3
   ·exact sk.free e2
 ·refine⟨λb=>?_⟩;cases e:g1 b with
  |none=>exact .inr rfl
  |some o=>
   left;rcases h8 b o e with e2|e2
   ·rcases f1.out b with e3|e3
    ·exact e3
    ·exact absurd e3 e2
   ·exact h.view.free e2
 ·intro b o e;rcases Heap.join_some e with e|e
  ·rcases h8 b o e with e2|e2
   ·cases e3:g b with
    |none=>exact absurd e3 e2
    |some p=>exact d b p (Heap.zh1 e3)
   ·exact .inr (Nat.le_trans h.size e2)
  ·exact d b o (Heap.zeT c e)
section
variable {P:Program} {w:World}
theorem zFD{size m:Nat}{x:Value}{news:List Value}(hx: ∀w':World,(∀p,w'.cell? p=w.cell? p)->(Builtin.firstCells size m x).run P w'= .ok news.toArray w'):
  (Builtin.firstCells size m x).run P w.drew= .ok news.toArray w.drew:=hx _ (λ_=>rfl)
theorem nextslicecap_le(need old:Nat)(h:old<need):Builtin.nextslicecap need old<=2*need+256:=by
 unfold Builtin.nextslicecap;split
 ·omega
 ·split
  ·omega
  ·have key: ∀r c,c<=2*need+256->Builtin.growBy need r c<=2*need+256:=by
    intro r;induction r with
    |zero=>intro c hc;exact hc
    |succ r ih=>
     intro c hc;simp only[Builtin.growBy];split
     ·exact hc
     ·exact ih _ (by omega)
   exact key 4 old (by omega)
set_option maxHeartbeats 2000000 in
theorem zPF{α:Type}{d:Kind α}{F:Heap}{t u ty e:TypeId}{i:TypeInfo}{z:Value}{A:Option Addr}{c:Nat}{xs ys:List α}{g0:Heap}{x:Value}{m:Nat}{news:List Value}{dd:TypeDesc}
  (ht:P.underlying t=some (.slice e)) (hu:P.underlying u=some dd) (hdd:dd= .string\/∃q,dd= .slice q) (hi:P.info? e=some i) (hz:i.zero=some z) (hsize:i.size=d.sz) (hzs:z.cells.size=d.sz)
  (hacc:(zhc e d A c xs).holds F g0) (hsub:g0.Sub w)
  (hlen:(Builtin.lenOf x).run P w= .ok m w) (hfirst: ∀w':World,(∀p,w'.cell? p=w.cell? p)->(Builtin.firstCells i.size m x).run P w'= .ok news.toArray w') (hl:news.length=m*d.sz) (hone: ∀v∈news,v.oneCell'=true)
  (hm:ys.length=m) (hys:rowIs F d news ys) (hlim:2*(xs.length+m)*i.bytes+256*i.bytes<=281474976710656) (h63:xs.length+m<=4611686018427387904):
  ∃A' c' w' g1,(Builtin.append_ #[t,u] ty #[.slice A xs.length c,x]).run P w= .ok (.slice A' (xs++ys).length c') w'/\
   w'.os=w.os/\w'.tape=w.tape/\w'.output=w.output/\w.heap.size<=w'.heap.size/\(∀x,x<w.heap.size->g0 x=none->w'.heap[x]? =w.heap[x]?)/\
   (zhc e d A' c' (xs++ys)).holds F g1/\g1.Sub w'/\∀x o,g1 x=some o->g0 x≠none\/w.heap.size<=x:=by
 have hlenxy:(xs++ys).length=xs.length+m:=by rw[qz5,hm]
 have joined: ∀(olds:List Value) (cells:List Value),olds.length=xs.length*d.sz->rowIs F d olds xs->cells.take ((xs.length+m)*d.sz)=olds++news->rowIs F d cells (xs++ys):=by
  intro olds cells ho hr hc k y hk
  have get: ∀q v,(olds++news)[q]? =some v->cells[q]? =some v:=λq v hq=>by
   rw[<-hc,List.getElem?_take]at hq;split at hq
   ·exact hq
   ·cases hq
  rw[List.getElem?_append]at hk;split at hk
  ·obtain⟨cs,h1,h2⟩:=hr k y hk
   exact⟨cs,h1,λj v hj=>get _ _ (by
    have:=h2 j v hj;rw[yF (qz0 this).1];exact this)⟩
  ·rename_i hge;obtain⟨cs,h1,h2⟩:=hys _ y hk;refine⟨cs,h1,λj v hj=>get _ _ ?_⟩
   have e1:k*d.sz+j=olds.length+((k -xs.length)*d.sz+j):=by
    rw[ho,Nat.sub_mul];have:xs.length*d.sz<=k*d.sz:=Nat.mul_le_mul_right _ (by omega);omega
   rw[e1,yG (by omega),Nat.add_sub_cancel_left];exact h2 j v hj
 have grows: ∀(olds:List Value),olds.length=xs.length*d.sz->rowIs F d olds xs->c<xs.length+m->(Builtin.firstCells i.size xs.length (.slice A xs.length c)).run P w.drew= .ok olds.toArray w.drew->
   (Builtin.append_ #[t,u] ty #[.slice A xs.length c,x]).run P w= .ok (.slice (some ⟨w.heap.size,0,none⟩) (xs.length+m) (grownCap w (xs.length+m) c e)) (w.drew.alloc (.cells (olds.toArray++news.toArray++Builtin.zeroCells z.cells (grownCap w (xs.length+m) c e - (xs.length+m))) e (0,0))):=by
  intro olds ho hr hg hf;have hn: ¬(xs.length+m<=c):=by omega
  have h63': ¬(9223372036854775807< ((xs.length:Int)+(m:Int))):=by omega
  have hcap:=nextslicecap_le (xs.length+m) c hg
  have h48': ¬(281474976710656<Builtin.nextslicecap (xs.length+m) c*i.bytes):=by
   have h1:Builtin.nextslicecap (xs.length+m) c*i.bytes<=(2*(xs.length+m)+256)*i.bytes:=Nat.mul_le_mul_right _ hcap;have h2:2*(xs.length+m)*i.bytes+256*i.bytes=(2*(xs.length+m)+256)*i.bytes:=by rw[Nat.add_mul]
   omega
  have hx:=zFD hfirst;rcases hdd with rfl| ⟨q,rfl⟩
  all_goals
   simp[Builtin.append_,run_underlying ht,run_underlying hu,sizeOf,typeInfo,zeroValue,hi,hz,hlen,hn,h63',h48',Question.forced,hx,hf,newRow,grownCap];congr 2;apply Array.ext';simp[yE]
 have hcapge:=grownCap_ge w (xs.length+m) c e;have hcaple:xs.length+m<=maxLen->grownCap w (xs.length+m) c e<=maxLen:=grownCap_le_maxLen w (xs.length+m) c e;have h63m:xs.length+m<=maxLen:=by rw[maxLen_eq];omega
 have grown: ∀(olds:List Value),olds.length=xs.length*d.sz->rowIs F d olds xs->c<xs.length+m->
   (zhc e d (some ⟨w.heap.size,0,none⟩) (grownCap w (xs.length+m) c e) (xs++ys)).holds F (Heap.one w.heap.size (.cells (olds.toArray++news.toArray++Builtin.zeroCells z.cells (grownCap w (xs.length+m) c e - (xs.length+m))) e (0,0))):=by
  intro olds ho hr hg;refine .inr ⟨_,_,rfl,rfl,by rw[hlenxy];exact hcapge,hcaple h63m,?_,joined olds _ ho hr ?_⟩
  ·simp only[Array.size_append,List.size_toArray,size_zeroCells,hzs,ho,hl];rw[<-Nat.add_mul,<-Nat.add_mul];congr 1;omega
  ·simp only[Array.toList_append,yE];rw[<-yE];have:(olds++news).length=(xs.length+m)*d.sz:=by rw[qz5,ho,hl,Nat.add_mul]
   rw[<-this];exact List.take_left
 have heap_new: ∀oo,(w.drew.alloc oo).heap[w.heap.size]? =some oo:=λoo=>by
  show(w.drew.heap.push oo)[w.heap.size]? =_;exact Array.getElem?_push_size
 have heap_old: ∀oo x,x<w.heap.size->(w.drew.alloc oo).heap[x]? =w.heap[x]? :=λoo x hx=>Below.heap_alloc w.drew oo x hx
 have heap_size: ∀oo,w.heap.size<=(w.drew.alloc oo).heap.size:=λoo=>by rw[zz1];exact Nat.le_succ _
 have fin_grow: ∀(olds:List Value),olds.length=xs.length*d.sz->rowIs F d olds xs->c<xs.length+m->(Builtin.firstCells i.size xs.length (.slice A xs.length c)).run P w.drew= .ok olds.toArray w.drew->
   ∃A' c' w' g1,(Builtin.append_ #[t,u] ty #[.slice A xs.length c,x]).run P w= .ok (.slice A' (xs++ys).length c') w'/\
   w'.os=w.os/\w'.tape=w.tape/\w'.output=w.output/\w.heap.size<=w'.heap.size/\(∀x,x<w.heap.size->g0 x=none->w'.heap[x]? =w.heap[x]?)/\
   (zhc e d A' c' (xs++ys)).holds F g1/\g1.Sub w'/\∀x o,g1 x=some o->g0 x≠none\/w.heap.size<=x:=by
  intro olds ho hr hg hf;refine⟨some ⟨w.heap.size,0,none⟩,grownCap w (xs.length+m) c e,w.drew.alloc (.cells (olds.toArray++news.toArray++Builtin.zeroCells z.cells (grownCap w (xs.length+m) c e - (xs.length+m))) e (0,0)),_,by rw[grows olds ho hr hg hf,hlenxy],rfl,rfl,rfl,heap_size _,λx hx _=>heap_old _ x hx,grown olds ho hr hg,⟨λb o e'=>?_⟩,λb o e'=>?_⟩
  ·obtain⟨rfl,rfl⟩:=Heap.zks e';exact heap_new _
  ·obtain⟨rfl,rfl⟩:=Heap.zks e';exact .inr (yJ _)
 rcases hacc with⟨rfl,rfl,rfl,rfl⟩| ⟨b,cells,rfl,rfl,hxc,hcm,hsz,hrow⟩
 ·
  by_cases h0:m=0
  ·have hy0:ys=[]:=List.length_eq_zero_iff.1 (hm.trans h0);subst hy0;subst h0;have hnews:news=[]:=List.length_eq_zero_iff.1 (by rw[hl,Nat.zero_mul]);subst hnews;have hx:=hfirst w (λ_=>rfl);refine⟨none,0,w,Heap.nil,?_,rfl,rfl,rfl,yJ _,λ_ _ _=>rfl,.inl ⟨rfl,rfl,rfl,rfl⟩,⟨λ_ _ e'=>by cases e'⟩,λ_ _ e'=>by cases e'⟩;rcases hdd with rfl| ⟨q,rfl⟩
   all_goals
    simp[Builtin.append_,run_underlying ht,run_underlying hu,sizeOf,typeInfo,hi,hlen,hx]
  ·refine fin_grow [] (by simp) (λk y hk=>by simp at hk) (by simp;omega) ?_
   simp[Builtin.firstCells]
 ·
  have hblk:w.heap[b]? =some (.cells cells e (0,0)):=hsub.out b _ (Heap.zfs _ _);have hcl:cells.toList.length=cells.size:=Array.length_toList
  have hol:(cells.toList.take (xs.length*d.sz)).length=xs.length*d.sz:=by
   rw[List.length_take,hcl,hsz];have:=Nat.mul_le_mul_right d.sz hxc;omega
  have hor:rowIs F d (cells.toList.take (xs.length*d.sz)) xs:=λk y hk=>by
   obtain⟨cs,h1,h2⟩:=hrow k y hk;refine⟨cs,h1,λj v hj=>?_⟩;rw[List.getElem?_take,yL ?_]
   ·exact h2 j v hj
   ·have hk':=(qz0 hk).1;have hj':=(qz0 hj).1;rw[d.length h1]at hj';have:(k+1)*d.sz<=xs.length*d.sz:=Nat.mul_le_mul_right _ hk';rw[Nat.add_mul]at this;omega
  by_cases hroom:xs.length+m<=c
  ·have hx:=hfirst w (λ_=>rfl)
   have hfit:xs.length*d.sz+news.length<=cells.size:=by
    rw[hl,<-Nat.add_mul,hsz];exact Nat.mul_le_mul_right _ hroom
   have hst:=run_storeCells_cells (P:=P) b (xs.length*d.sz) news 0 w (λj hj=>by
    have:xs.length*d.sz+j<cells.size:=by omega
    unfold World.cell?;rw[hblk];simp[this]) (λj hj=>by unfold World.frozen?;rw[hblk];simp) hone
   rw[Nat.add_zero]at hst;obtain⟨q1,q2,q3,q4,q5⟩:=zkf b news (xs.length*d.sz) w;have q6:=zhI b news (xs.length*d.sz) w cells hblk hfit;refine⟨some ⟨b,0,none⟩,c,w.setCells b (xs.length*d.sz) news,Heap.one b (.cells (cells.toList.take (xs.length*d.sz)++(news++cells.toList.drop (xs.length*d.sz+news.length))).toArray e (0,0)),?_,q1,q2,q3,by rw[q4];exact yJ _,λx hx hg=>q5 x (λe'=>by subst e';rw[Heap.zfs]at hg;cases hg),.inr ⟨b,_,rfl,rfl,by rw[hlenxy];exact hroom,hcm,?_,joined _ _ hol hor ?_⟩,⟨λy o e'=>by obtain⟨rfl,rfl⟩:=Heap.zks e';exact q6⟩,λy o e'=>by obtain⟨rfl,rfl⟩:=Heap.zks e';exact .inl (by rw[Heap.zfs];simp)⟩
   ·rw[hlenxy];have hadd:(⟨b,0,none⟩:Addr).add (xs.length*d.sz)=⟨b,xs.length*d.sz,none⟩:=by rw[zgN,Nat.zero_add]
    rw[<-hsize]at hst hadd⊢;rcases hdd with rfl| ⟨q,rfl⟩
    all_goals
     simp[Builtin.append_,run_underlying ht,run_underlying hu,sizeOf,typeInfo,hi,hlen,hx,hroom,hadd,hst]
   ·have l1:(cells.toList.take (xs.length*d.sz)++(news++cells.toList.drop (xs.length*d.sz+news.length))).toArray.size=cells.size:=by
     rw[List.size_toArray,qz5,qz5,List.length_drop,hol,hcl];omega
    rw[l1,hsz]
   ·have l2:(cells.toList.take (xs.length*d.sz)++news).length=(xs.length+m)*d.sz:=by rw[qz5,hol,hl,Nat.add_mul]
    show List.take ((xs.length+m)*d.sz) (cells.toList.take (xs.length*d.sz)++(news++cells.toList.drop (xs.length*d.sz+news.length)))=_;rw[<-yE,<-l2];exact List.take_left
  ·refine fin_grow (cells.toList.take (xs.length*d.sz)) hol hor (by omega) ?_;rw[<-hsize]at hol⊢
   exact run_firstCells_some (P:=P) w.drew i.size xs.length ⟨b,0,none⟩ xs.length c _ hol (λj v hj=>by
    rw[zgN,Nat.zero_add];rw[List.getElem?_take]at hj;split at hj
    ·show w.cell? ⟨b,j,none⟩=some v;unfold World.cell?;rw[hblk];simpa using hj
    ·cases hj)
end
section
variable {P:Program} {N:Nat} {w0:World} {F0:Heap} {D:Own} {w:World} {F:Heap} {L:List SP} {B B':List (Option Box)} {ρ:Nat->Nat} {l:Env} {a:Act} {o:Oper} {ops:Array Oper} {lit:List Nat} {rest:List Oper} {Q:Exit->Act->World->Prop}
theorem zHd(ρ:Nat->Nat)(B:List (Option Box))(L:List SP){i:Nat}{A:SP}(h:L[i]? =some A):(boxes ρ 0 B++L)[B.length+i]? =some A:=by
 rw[yG (by rw[zjh];omega),zjh,Nat.add_sub_cancel_left];exact h
theorem zKT(ρ:Nat->Nat)(B:List (Option Box))(L:List SP)(i:Nat)(A:SP):(boxes ρ 0 B++L).set (B.length+i) A=boxes ρ 0 B++L.set i A:=by
 rw[List.set_append_right _ _ (by rw[zjh];omega),zjh,Nat.add_sub_cancel_left]
def zHM(P:Program)(e:TypeId)(sz bytes:Nat):Bool:=match P.info? e with
 |some i=>Nat.beq i.size sz&&Nat.beq i.bytes bytes&&(match i.zero with|some z=>Nat.beq z.cells.size sz|none=>false)
 |none=>false
theorem zOd{e:TypeId}{sz bytes:Nat}(h:zHM P e sz bytes=true): ∃i z,P.info? e=some i/\i.zero=some z/\i.size=sz/\i.bytes=bytes/\z.cells.size=sz:=by
 unfold zHM at h;cases hi:P.info? e with
 |none=>rw[hi]at h;cases h
 |some i=>
  rw[hi]at h;simp only[qz4]at h;obtain⟨⟨h1,h2⟩,h3⟩:=h;cases hz:i.zero with
  |none=>rw[hz]at h3;cases h3
  |some z=>rw[hz]at h3;exact⟨i,z,rfl,hz,yC h1,yC h2,yC h3⟩
theorem zdA{T e:TypeId}(h:zmQ P T=some e):P.underlying T=some (.slice e):=by
 unfold zmQ at h;cases hu:P.underlying T with
 |none=>rw[hu]at h;cases h
 |some d=>rw[hu]at h;cases d<;>simp only at h<;>cases h;rfl
theorem zEq{α:Type}{e:TypeId}{d:Kind α}{A:Option Addr}{c:Nat}{xs:List α}{g g':Heap}(h:(zhc e d A c xs).holds F g)(hs:g.Sub w)(h':(zhc e d A c xs).holds F g')(hs':g'.Sub w):g=g':=by
 rcases h with⟨rfl,_,_,rfl⟩| ⟨b,cells,rfl,rfl,_⟩
 ·rcases h' with⟨_,_,_,rfl⟩| ⟨b,cells,e1,_⟩
  ·rfl
  ·cases e1
 ·rcases h' with⟨e1,_⟩| ⟨b',cells',e1,rfl,_⟩
  ·cases e1
  ·cases e1;have h1:=hs.out b _ (Heap.zfs _ _);have h2:=hs'.out b _ (Heap.zfs _ _);rw[h1]at h2;rw[yS h2]
theorem zAU: ∀{l m:List SV} {vs:List Value},SV.zct (l++m)=some vs->∃v1 v2,SV.zct l=some v1/\SV.zct m=some v2/\vs=v1++v2
 | [],m,vs,h=>⟨[],vs,rfl,h,rfl⟩
 |s::l,m,vs,h=>by
  simp only[yI,SV.zct]at h;cases hs:s.plain with
  |none=>rw[hs]at h;cases h
  |some x=>
   cases hl:SV.zct (l++m)with
   |none=>rw[hs,hl]at h;cases h
   |some r=>
    rw[hs,hl]at h;cases h;obtain⟨v1,v2,h1,h2,rfl⟩:=zAU hl;exact⟨x::v1,v2,by simp only[SV.zct,hs,h1],h2,rfl⟩
theorem zIj{α:Type}(d:Kind α): ∀zs:List (α×d.Y),(zs.map λz=>d.f z.1 z.2).flatten.length=zs.length*d.sz
 | []=>by simp
 |z::r=>by simp only[List.map_cons,List.flatten_cons,qz5,d.len,zIj d r,qz3,Nat.add_mul];omega
theorem zIh{α:Type}(d:Kind α){F:Heap}: ∀{zs:List (α×d.Y)} {vs:List Value},SV.zct (zs.map λz=>d.f z.1 z.2).flatten=some vs->SV.zbs F (zs.map λz=>d.f z.1 z.2).flatten->rowIs F d vs (zs.map (·.1))
 | [],_,_,_,j,y,hj=>by simp at hj
 |z::r,vs,hvs,hg,j,y,hj=>by
  simp only[List.map_cons,List.flatten_cons]at hvs hg hj;obtain⟨v1,v2,h1,h2,rfl⟩:=zAU hvs;have hg1:=SV.zcW.1 hg;have hgz:SV.zbs F (d.f z.1 z.2):=SV.zcW.2 λs hs=>hg1 s (List.mem_append_left _ hs)
  have hlz:v1.length=d.sz:=by rw[zmj h1,d.len]
  cases j with
  |zero=>
   simp at hj;subst hj;refine⟨v1,d.shut h1 hgz,λq v hq=>?_⟩;rw[Nat.zero_mul,Nat.zero_add,yF (qz0 hq).1];exact hq
  |succ j=>
   simp only[List.getElem?_cons_succ]at hj;obtain⟨cs,c1,c2⟩:=zIh d (zs:=r) h2 (SV.zcW.2 λs hs=>hg1 s (List.mem_append_right _ hs)) j y hj;refine⟨cs,c1,λq v hq=>?_⟩;have:=c2 q v hq;rw[Nat.add_mul,Nat.one_mul,show j*d.sz+d.sz+q=v1.length+(j*d.sz+q) by omega,yG (by omega),Nat.add_sub_cancel_left];exact this
end
section
variable {P:Program} {N:Nat} {w0:World} {F0:Heap} {D:Own} {w:World} {F:Heap} {L:List SP} {B B':List (Option Box)} {ρ:Nat->Nat} {l:Env} {a:Act} {o:Oper} {ops:Array Oper} {lit:List Nat} {rest:List Oper} {Q:Exit->Act->World->Prop}
theorem zJH(ρ:Nat->Nat)(B:List (Option Box))(L:List SP)(i:Nat):(boxes ρ 0 B++L).eraseIdx (B.length+i)=boxes ρ 0 B++L.eraseIdx i:=by
 rw[List.eraseIdx_append_of_length_le (by rw[zjh];omega),zjh,Nat.add_sub_cancel_left]
theorem zPO{α:Type}{d:Kind α}{b c:Nat}{cells:Array Value}{e:TypeId}{xs:List α}(F:Heap)(hF:F b=none)(hrow:rowIs F d cells.toList xs):
  Row (F.join (Heap.one b (.cells cells e (0,0)))) d (some ⟨b,0,none⟩) xs:=by
 refine .inr ⟨b,0,rfl,λi x hx=>?_⟩;obtain⟨cs,h1,h2⟩:=hrow i x hx;refine⟨cs,d.mono (Heap.zdZ _ _) h1,λj v hj=>⟨cells,e,(0,0),Heap.zeT (Heap.zi3.2 hF) (Heap.zfs _ _),?_⟩⟩;have:=h2 j v hj;rw[Nat.zero_add,<-Array.getElem?_toList];exact this
theorem Cx.zNB(h:Cx N w0 F0 D w F L B ρ l a){k:Nat}{b:Box}(hk:B[k]? =some (some b)){A:SP}(hAF:A.holds F (Heap.one (ρ k) (.cells (SV.zaV ρ b.cells).toArray b.ty (0,0)))):
  Cx N w0 F0 D w F (A::L) (B.set k none) ρ l a:=by
 have h1:=zAc ρ B 0 k (some b) hk;rw[Nat.zero_add]at h1;have hlt:k< (boxes ρ 0 B).length:=(qz0 h1).1;obtain⟨x,ha,hs,hf,hd⟩:=h.st.own;obtain⟨g,k1,a1,a2,c,rfl⟩:=all_append.1 ha;obtain⟨g2,k2,e1,c2,rfl,ae,put⟩:=zma h1 a1;have e1:g2=Heap.one (ρ k) (.cells (SV.zaV ρ b.cells).toArray b.ty (0,0)):=e1;subst e1;obtain⟨c3,c4⟩:=Heap.zgT.1 c
 have hB':all F (boxes ρ 0 (B.set k none)) k2:=by
  rw[zCO,Nat.zero_add];have:=put (A':=emp) (g':=Heap.nil) (.refl F) rfl ae (Heap.znc _);exact this
 have hj:((Heap.one (ρ k) (.cells (SV.zaV ρ b.cells).toArray b.ty (0,0))).join k2).join k1=k2.join ((Heap.one (ρ k) (.cells (SV.zaV ρ b.cells).toArray b.ty (0,0))).join k1):=by
  rw[Heap.join_comm c2,Heap.join_assoc]
 refine⟨h.size,h.nodef,h.env,λt s e=>by rw[List.length_set];exact h.good t s e,λb' hb'=>?_,by rw[List.length_set];exact h.fix,h.st.os,h.st.tape,h.st.output,h.st.size,h.st.frame,h.st.le,h.st.new,h.st.view,
  k2.join ((Heap.one (ρ k) (.cells (SV.zaV ρ b.cells).toArray b.ty (0,0))).join k1),all_append.2 ⟨k2,_,hB',⟨_,k1,hAF,a2,c3,rfl⟩,Heap.zcq.2 ⟨c2.symm,c4⟩,rfl⟩,by rw[<-hj];exact hs,by rw[<-hj];exact hf,by rw[<-hj];exact hd⟩
 rw[List.length_set];rcases List.mem_or_eq_of_mem_set hb' with h2|h2
 ·exact h.bgood b' h2
 ·cases h2
theorem zDH(xs:Str):strOfNums (xs.map λb=>(b.toNat:Int))=⟨⟨xs⟩⟩:=by
 unfold strOfNums;congr 1;simp[Function.comp_def]
theorem Cx.zTN{T T2 e:TypeId}{x:Operand}{xs:Str}{A:Option Addr}{c:Nat}(h:Cx N w0 F0 D w F L B ρ l a)(hg:gd ops lit [] l o.guard=some .yes)(hd:zt4 N o.dst=true)
  (hop:o.op= .convert T T2 x) (hT:zmQ P T=some e) (he:P.underlying e=some (.int .u8)) (hT2:P.underlying T2=some .string) (hx:ov l x=some (SV.sl zed xs A c))
  (hK: ∀a',Cx N w0 F0 D w F L B ρ (after l o.dst (.v (.string ⟨⟨xs⟩⟩))) a'->wpList P ops Q rest a' w):wpList P ops Q (o::rest) a w:=by
 refine h.zDc hg hd (s:= .v (.string ⟨⟨xs⟩⟩)) (ρ':=ρ) ?_ h trivial rfl hK;have e1:a.eval x= .slice A xs.length c:=h.eval hx;obtain⟨_,hrow⟩:xs.length<=c/\Row F zed A xs:=(h.zjE hx).1;unfold execOp;rw[hop];rcases hrow with rfl| ⟨b,off,rfl,hcells⟩
 ·have hl:(loadCells (A.getD default) 0).run P w= .ok #[] w:=by simp[loadCells,loadCellsFrom]
  cases A with
  |none=>
   have:=run_convert_bytes_nil (P:=P) w T e (zdA hT) he 0 c T2 hT2;simp only[e1,Sem.run_bind,qz6,this,Result.andThen_ok,Sem.run_pure,SV.den];rfl
  |some ad=>
   have:=run_convert_bytes_string (P:=P) w T T2 e (some ad) 0 c (zdA hT) he hT2;simp only[e1,Sem.run_bind,qz6,this];simp[Conv.bytesToString,loadCells,loadCellsFrom,SV.den];rfl
 ·have:=run_convert_bytes_arg (P:=P) w T e (zdA hT) he b off xs.length c (xs.map λb=>(b.toNat:Int)) (by simp) (λi hi=>by
   obtain⟨cs,h1,h2⟩:=hcells i xs[i] (qz9 hi);have h1:cs=[.int .u8 (xs[i].toNat:Int)]:=h1;subst h1;have:=ziV h.st.view (h2 0 _ rfl);simp only[zed,Nat.mul_one,Nat.add_zero]at this;rw[this];simp[List.getD,hi]) T2 hT2
  simp only[e1,Sem.run_bind,this,Result.andThen_ok,Sem.run_pure,SV.den,zDH]
def zk5{α:Type}(xs:List α)(n:Int)(v:α):List α:=xs.set n.toNat v
theorem Cx.zve{α:Type}{d:Kind α}{T e:TypeId}{x z:Operand}{i b:Nat}{xs:List α}{c:Nat}{n:Int}{v u:α}{y:d.Y}{s:SV}(h:Cx N w0 F0 D w F L B ρ l a)(hg:gd ops lit [] l o.guard=some .yes)(hd:o.dst=none)(hL:L[i]? =some (zhc e d (some ⟨b,0,none⟩) c xs))
  (hop:o.op= .store T x z) (hs:zcm P T=some d.sz) (hx:ov l x=some (.v (.pointer (some ⟨b,n.toNat*d.sz,none⟩)))) (hz:ov l z=some s) (hsc:s.cells=some (d.f u y)) (hpl: ∃vs,SV.zct (d.f u y)=some vs) (hv:zas xs n=some v)
  (hK: ∀w' a',Cx N w0 F0 D w' F (L.set i (zhc e d (some ⟨b,0,none⟩) c (zk5 xs n u))) B ρ l a'->wpList P ops Q rest a' w'):wpList P ops Q (o::rest) a w:=by
 have e1:a.eval x= .pointer (some ⟨b,n.toNat*d.sz,none⟩):=h.eval hx;have e2:=h.eval hz;have hi':=zHd ρ B L hL;obtain⟨q,ha,hs',_,_⟩:=h.st.own;obtain⟨g1,kk,hacc,_,rfl,_,_⟩:=zma hi' ha;have hsub:g1.Sub w:=hs'.zfH;obtain⟨vs,hvs⟩:=hpl;have hden:=SV.zms ρ hvs;have hcells:=SV.ztb ρ hsc;rw[hden]at hcells;have hok:=SV.cells_ok hsc (h.zjE hz).1 (h.zjE hz).2;have hvl:vs.length=d.sz:=by rw[zmj hvs,d.len]
 have hone: ∀r∈vs,r.oneCell'=true:=by rw[<-hden];exact SV.zwB ρ (d.ones u y)
 unfold zas at hv;split at hv
 ·have hlt:=(qz0 hv).1;have hacc':=hacc;rcases hacc with⟨h1,_⟩| ⟨b',cells,h1,rfl,hxc,hcm,hsz,hrow⟩
  ·cases h1
  ·cases h1;have hblk:w.heap[b]? =some (.cells cells e (0,0)):=hsub.out b _ (Heap.zfs _ _)
   have hfit:n.toNat*d.sz+vs.length<=cells.size:=by
    rw[hvl,hsz];have:(n.toNat+1)*d.sz<=c*d.sz:=Nat.mul_le_mul_right _ (by omega);rw[Nat.add_mul,Nat.one_mul]at this;exact this
   have hst:=run_storeCells_cells (P:=P) b (n.toNat*d.sz) vs 0 w (λj hj=>by
    have:n.toNat*d.sz+j<cells.size:=by omega
    unfold World.cell?;rw[hblk];simp[this]) (λj hj=>by unfold World.frozen?;rw[hblk];simp) hone
   rw[Nat.add_zero]at hst;obtain⟨q1,q2,q3,q4,q5⟩:=zkf b vs (n.toNat*d.sz) w;have q6:=zhI b vs (n.toNat*d.sz) w cells hblk hfit;have hcl:cells.toList.length=cells.size:=Array.length_toList
   have hnew:(zhc e d (some ⟨b,0,none⟩) c (zk5 xs n u)).holds F (Heap.one b (.cells (cells.toList.take (n.toNat*d.sz)++(vs++cells.toList.drop (n.toNat*d.sz+vs.length))).toArray e (0,0))):=by
    refine .inr ⟨b,_,rfl,rfl,by unfold zk5;rw[List.length_set];exact hxc,hcm,?_,λk r hr=>?_⟩
    ·rw[List.size_toArray,qz5,qz5,List.length_drop,List.length_take,hcl];omega
    ·unfold zk5 at hr;rw[yR]at hr
     have hget: ∀q r,(cells.toList.take (n.toNat*d.sz)++(vs++cells.toList.drop (n.toNat*d.sz+vs.length)))[q]? =some r↔(if q<n.toNat*d.sz then cells.toList[q]? else if q<n.toNat*d.sz+vs.length then vs[q -n.toNat*d.sz]? else cells.toList[q]?)=some r:=by
      intro q r;have hlt1:(cells.toList.take (n.toNat*d.sz)).length=n.toNat*d.sz:=by rw[List.length_take,hcl];omega
      by_cases g1:q<n.toNat*d.sz
      ·rw[yL g1,yF (by rw[hlt1];exact g1),List.getElem?_take,yL g1]
      ·rw[yK g1,yG (by rw[hlt1];omega),hlt1]
       by_cases g2:q<n.toNat*d.sz+vs.length
       ·rw[yL g2,yF (by omega)]
       ·rw[yK g2,yG (by omega),List.getElem?_drop,show n.toNat*d.sz+vs.length+(q -n.toNat*d.sz -vs.length)=q by omega]
     split at hr
     ·rename_i hk;subst hk;cases hr;refine⟨vs,d.shut hvs hok.1,λj r hj=>?_⟩;have hj':=(qz0 hj).1;refine(hget _ _).2 ?_;rw[yK (by omega),yL (by omega),show n.toNat*d.sz+j -n.toNat*d.sz=j by omega];exact hj
     ·rename_i hk;obtain⟨cs,c1,c2⟩:=hrow k r hr;refine⟨cs,c1,λj r' hj=>(hget _ _).2 ?_⟩;have hj':=(qz0 hj).1;rw[d.length c1]at hj';rcases Nat.lt_or_gt_of_ne hk with g1|g1
      ·have:(n.toNat+1)*d.sz<=k*d.sz:=Nat.mul_le_mul_right _ g1;rw[Nat.add_mul,Nat.one_mul]at this;rw[yK (by omega),yK (by omega)];exact c2 j r' hj
      ·have:(k+1)*d.sz<=n.toNat*d.sz:=Nat.mul_le_mul_right _ g1;rw[Nat.add_mul,Nat.one_mul]at this;rw[yL (by omega)];exact c2 j r' hj
   have hfin:=h.st.replace (A1:=zhc e d (some ⟨b,0,none⟩) c (zk5 xs n u)) hi' (w':=w.setCells b (n.toNat*d.sz) vs) (λg0 hg0 hs0=>by
    have:g0=Heap.one b (.cells cells e (0,0)):=zEq hg0 hs0 hacc' hsub;subst this;exact⟨q1,q2,q3,by rw[q4];exact yJ _,λx hx hgx=>q5 x (λe'=>by subst e';rw[Heap.zfs]at hgx;cases hgx),_,hnew,⟨λy' o' e'=>by obtain⟨rfl,rfl⟩:=Heap.zks e';exact q6⟩,λy' o' e'=>by obtain⟨rfl,rfl⟩:=Heap.zks e';exact .inl (by rw[Heap.zfs];simp)⟩)
   rw[zKT]at hfin;refine zg3 (zHP (Lx.start h) hg) (zzB (w':=w.setCells b (n.toNat*d.sz) vs) ?_ (hK _ _ (by rw[hd];exact⟨h.size,h.nodef,h.env,h.good,h.bgood,h.fix,hfin⟩)))
   have hsz2:(s.den ρ).cells.size=d.sz:=by rw[<-Array.length_toList,hcells,hvl]
   unfold execOp;rw[hop];simp only[e1,e2,Instr.storeAt,Instr.sureAddr,storeVar,Sem.run_bind,Sem.run_pure,Result.andThen_ok,zco hs,hsz2,ne_eq,not_true_eq_false,yA,hcells,hst]
 ·cases hv
end
def zaH{S E:Type}(step:S->Option (S⊕E)):Nat->S->Option E
 |0,_=>none
 |n+1,s=>Option.bind (step s) λo=>match o with
  | .inl s'=>zaH step n s'
  | .inr e=>some e
theorem zFf{S E:Type}{step:S->Option (S⊕E)}: ∀{n:Nat} {s:S} {e:E} (m:Nat),zaH step n s=some e->n<=m->zaH step m s=some e
 |0,_,_,_,h,_=>by simp[zaH]at h
 |n+1,s,e,m,h,hm=>by
  obtain⟨m,rfl⟩: ∃k,m=k+1:=⟨m -1,by omega⟩
  simp only[zaH]at h⊢;cases hs:step s with
  |none=>rw[hs]at h;cases h
  |some o=>
   rw[hs]at h;simp only[qz1]at h⊢;cases o with
   |inl s'=>exact zFf m h (by omega)
   |inr e'=>exact h
open Classical in
noncomputable def zFi {S E:Type} (step:S->Option (S⊕E)) (s:S):Option E:=
 if h: ∃n e,zaH step n s=some e then some (Classical.choose (Classical.choose_spec h))else none
theorem zKR{S E:Type}{step:S->Option (S⊕E)}{s:S}{e:E}(h:zFi step s=some e): ∃n,zaH step n s=some e:=by
 unfold zFi at h;split at h
 ·rename_i hx;have h2:=Classical.choose_spec (Classical.choose_spec hx);rw[yS h]at h2;exact⟨_,h2⟩
 ·cases h
theorem zaS{α β:Type}{x:Option α}{f:α->Option β}{r:β}(h:x.bind f=some r): ∃y,x=some y/\f y=some r:=by
 cases x with
 |none=>cases h
 |some y=>exact⟨y,rfl,h⟩
theorem zCN{α:Type}{b:Bool}{X Y:Option α}{r:α}(h:(if b=true then X else Y)=some r)(hb:b=true):X=some r:=by subst hb;exact h
theorem zCi{α:Type}{b:Bool}{X Y:Option α}{r:α}(h:(if b=true then X else Y)=some r)(hb:b=false):Y=some r:=by subst hb;exact h
def toB(n:Int):Option UInt8:=if 0<=n/\n<256 then some (UInt8.ofNat n.toNat)else none
theorem zrR{n:Int}{b:UInt8}(h:toB n=some b):n=(b.toNat:Int):=by
 unfold toB at h;split at h
 ·rename_i hn;cases h;have:n.toNat<256:=by omega
  simp[Nat.mod_eq_of_lt this];omega
 ·cases h
section
variable {P:Program} {N:Nat} {w0:World} {F0:Heap} {D:Own} {w:World} {F:Heap} {L:List SP} {B B':List (Option Box)} {ρ:Nat->Nat} {l:Env} {a:Act} {o:Oper} {ops:Array Oper} {Q:Exit->Act->World->Prop}
theorem zKo{S E:Type}{step:S->Option (S⊕E)}{body:Code}(I:S->Act->World->Prop){s0:S}{e:E}(h:zFi step s0=some e)
  (hb: ∀(LW:Act->World->Prop) (s:S) (o:S⊕E),step s=some o->(∀s',o= .inl s'->∀a w,I s' a w->LW a w)->(∀e',o= .inr e'->e'=e)->∀a w,I s a w->body.wp P (Exit.then LW Q) a w):
  ∀a w,I s0 a w->(Code.loop body).wp P Q a w:=by
 intro a w hI;refine zK3 (P:=P) λLW hLW=>?_
 have key: ∀(n:Nat) (s:S) (e':E),zaH step n s=some e'->e'=e->∀a w,I s a w->LW a w:=by
  intro n;induction n with
  |zero=>intro s e' he;simp[zaH]at he
  |succ n ih=>
   intro s e' he hee a w hI;subst hee;obtain⟨o,ho,hr⟩:=zaS he;refine hLW a w (hb LW s o ho (λs' hs' a w hI'=>?_) (λe'' he''=>?_) a w hI)
   ·subst hs';exact ih s' e' hr rfl a w hI'
   ·subst he'';exact yS hr
 obtain⟨n,hn⟩:=zKR h;exact key n s0 e hn rfl a w hI
theorem zES{α:Type}{x o:α}(h:some x=some o):o=x:=(yS h).symm
theorem zeh(h:Q .normal a w):wpList P ops Q [] a w:=h
theorem Cx.keeps(h:Cx N w0 F0 D w F L B ρ l a)(ks:List Nat){l':Env}(e:keep l ks=some l'):Cx N w0 F0 D w F L B ρ l' a:=h.pick (zAb e)
theorem Cx.zTq(h:Cx N w0 F0 D w F L B ρ l a)(t:Nat){α:Type}(d:Kind α)(hs:look l t=some (.v (.slice none 0 0))):Cx N w0 F0 D w F L B ρ ((t,SV.sl d ([]:List α) none 0)::l) a:=
 h.zzf hs rfl (zR5 d F) rfl
def zEv(k:IntKind)(x y:Int):Option Int:=if y<0 then none else some (k.wrap (x*2^(min y.toNat k.bits)))
def zLm(k:IntKind)(x y:Int):Option Int:=if y<0 then none else some (x.fdiv (2^(min y.toNat k.bits)))
def zJp(k:IntKind)(x y:Int):Option Int:=if y=0 then none else some (k.wrap (x.tdiv y))
def zOW(_:IntKind)(x y:Int):Option Int:=if y=0 then none else some (x.tmod y)
def arI:BinOp->IntKind->Int->Int->Option Int
 | .shl,k,x,y=>zEv k x y
 | .shr,k,x,y=>zLm k x y
 | .quo,k,x,y=>zJp k x y
 | .rem,k,x,y=>zOW k x y
 |_,_,_,_=>none
theorem Cx.arith{lit:List Nat}{rest:List Oper}{op:BinOp}{T T2:TypeId}{x y:Operand}{k k':IntKind}{m n r:Int}(h:Cx N w0 F0 D w F L B ρ l a)(hg:gd ops lit [] l o.guard=some .yes)(hd:zt4 N o.dst=true)
  (hop:o.op= .binOp op T x y T2) (hx:ov l x=some (.v (.int k m))) (hy:ov l y=some (.v (.int k' n))) (hk:k=k'\/op= .shl\/op= .shr) (hr:arI op k m n=some r)
  (hK: ∀a',Cx N w0 F0 D w F L B ρ (after l o.dst (.v (.int k r))) a'->wpList P ops Q rest a' w):wpList P ops Q (o::rest) a w:=by
 refine h.zDc hg hd (s:= .v (.int k r)) (ρ':=ρ) ?_ h trivial rfl hK;have e1:a.eval x= .int k m:=h.eval hx;have e2:a.eval y= .int k' n:=h.eval hy;unfold execOp;rw[hop];cases op<;>simp only[arI]at hr<;>(try cases hr)
 ·unfold zJp at hr;split at hr
  ·cases hr
  ·rename_i hn;cases hr;have hkk:k=k':=by rcases hk with e|e|e<;>first|exact e|cases e
   subst hkk;simp only[e1,e2,eqGuard,binOp,Op.intDiv,yK hn,ne_eq,not_true_eq_false,yA,Sem.run_bind,Sem.run_pure,Result.andThen_ok,SV.den,pure_bind,yN,yB]
 ·unfold zOW at hr;split at hr
  ·cases hr
  ·rename_i hn;cases hr;have hkk:k=k':=by rcases hk with e|e|e<;>first|exact e|cases e
   subst hkk;simp only[e1,e2,eqGuard,binOp,Op.intDiv,yK hn,ne_eq,not_true_eq_false,yA,Sem.run_bind,Sem.run_pure,Result.andThen_ok,SV.den,pure_bind,yN,yB]
 ·unfold zEv at hr;split at hr
  ·cases hr
  ·rename_i hn;cases hr;simp only[e1,e2,eqGuard,binOp,Op.shift,yK hn,Sem.run_bind,Sem.run_pure,Result.andThen_ok,SV.den,pure_bind,yN,yB]
 ·unfold zLm at hr;split at hr
  ·cases hr
  ·rename_i hn;cases hr;simp only[e1,e2,eqGuard,binOp,Op.shift,yK hn,Sem.run_bind,Sem.run_pure,Result.andThen_ok,SV.den,pure_bind,yN,yB]
end
theorem zSv{x y a b:Int}(p:Bool)(hp:p=decide (x<=y)):(if p=true then a else b)=if x<=y then a else b:=by
 subst hp;by_cases h:x<=y<;>simp[h]
theorem zJA(n:Int):IntKind.wrap .i64 n=if(9223372036854775808:Int)<=n%18446744073709551616 then n%18446744073709551616 -18446744073709551616 else n%18446744073709551616:=
 zSv (x:=9223372036854775808) (y:=n%18446744073709551616) _ rfl
theorem zHX(n:Int):IntKind.wrap .u64 n=n%18446744073709551616:=rfl
theorem zDP(n:Int):IntKind.wrap .u8 n=n%256:=rfl
theorem wrap_i64{n:Int}(h1: -9223372036854775808<=n)(h2:n<9223372036854775808):IntKind.wrap .i64 n=n:=by
 rw[zJA];split<;>omega
theorem wrap_u64{n:Int}(h1:0<=n)(h2:n<18446744073709551616):IntKind.wrap .u64 n=n:=by rw[zHX];omega
theorem wrap_u8{n:Int}(h1:0<=n)(h2:n<256):IntKind.wrap .u8 n=n:=by rw[zDP];omega
theorem ziq{α:Type}(xs:List α)(i:Nat):zas xs (i:Int)=xs[i]? :=by
 unfold zas;rw[yL (by omega)];simp
theorem zix(s:Str)(i:Nat):zbc s (i:Int)=(s[i]?).map λb=>((b.toNat:Nat):Int):=by
 unfold zbc;rw[yL (by omega)];simp
theorem zne{α:Type}(s:List α)(i j:Nat)(h:i<=j)(h2:j<=s.length):zbv s (i:Int) (j:Int)=some ((s.drop i).take (j -i)):=by
 unfold zbv;rw[yL (by omega)];simp
theorem zgz{α:Type}(s:List α)(i:Nat)(h:i<=s.length):zbv s (i:Int) ((s.length:Nat):Int)=some (s.drop i):=by
 rw[zne s i _ h (yJ _)];congr 1;exact List.take_of_length_le (by simp)
theorem zcQ{n:Nat}(h:n<=274877906944):room n=some ():=by unfold room;rw[yL h]
theorem zDg{s t:Str}(h:s.length+t.length<=4611686018427387904):zmy s t=some (s++t):=by unfold zmy;rw[yL h]
theorem zCz{n:Int}(h1:0<=n)(h2:n<256):toB n=some (UInt8.ofNat n.toNat):=by unfold toB;rw[yL ⟨h1,h2⟩]
theorem zTD(b:UInt8):((b.toNat:Nat):Int)<256:=by have:=b.toNat_lt;omega
section
variable {P:Program} {N:Nat} {w0:World} {F0:Heap} {D:Own} {w:World} {F:Heap} {L:List SP} {B B':List (Option Box)} {ρ:Nat->Nat} {l:Env} {a:Act} {o:Oper} {ops:Array Oper} {Q:Exit->Act->World->Prop}
theorem St.zQn{w':World}(hv:F.Sub w)(h:Below w.heap.size w w'):St w F No w' F []:=
 ⟨h.os,h.tape,h.output,h.size,λb hb _=>h.block b hb,.refl F,λ_ _ _=>rfl,⟨λx o e=>by rw[h.block x (hv.lt e)];exact hv.out x o e⟩,Heap.nil,rfl,⟨λ_ _ e=>by cases e⟩,⟨λ_=> .inr rfl⟩,λ_ _ e=>by cases e⟩
theorem zfI.pure{post:SV->Prop}{s:SV}{w':World}{e:Ending}(hv:F.Sub w)(he:e= .returned (s.den λ_=>0))(hw:w'=w)(hg:s.good F)(hu:s.under 0=true)(hp:post s):zfI w F post e w':=by
 subst hw;exact⟨F,s,he,hg,hu,St.start hv,hp⟩
theorem zfI.below{post:SV->Prop}{s:SV}{w':World}{e:Ending}(hv:F.Sub w)(he:e= .returned (s.den λ_=>0))(hw:Below w.heap.size w w')(hg:s.good F)(hu:s.under 0=true)(hp:post s):zfI w F post e w':=
 ⟨F,s,he,hg,hu,St.zQn hv hw,hp⟩
end
section
variable {P:Program} {N:Nat} {w0:World} {F0:Heap} {D:Own} {w:World} {F:Heap} {L:List SP} {B B':List (Option Box)} {ρ:Nat->Nat} {l:Env} {a:Act} {o:Oper} {ops:Array Oper} {Q:Exit->Act->World->Prop}
end
section
variable {P:Program} {N:Nat} {w0:World} {F0:Heap} {D:Own} {w:World} {F:Heap} {L L' M M':List SP} {B B':List (Option Box)} {ρ:Nat->Nat} {l:Env} {a:Act} {o:Oper} {ops:Array Oper} {Q:Exit->Act->World->Prop}
theorem St.zIC(h:St w0 F0 D w F L)(hL: ∀x,all F L x->all F L' x):St w0 F0 D w F L':=
 ⟨h.os,h.tape,h.output,h.size,h.frame,h.le,h.new,h.view,let⟨x,a,r⟩:=h.own;⟨x,hL x a,r⟩⟩
theorem zOc{F:Heap}{L M:List SP}{x:Heap}(h:all F (L++M) x):all F (M++L) x:=by
 obtain⟨g,k,a,b,c,rfl⟩:=all_append.1 h;exact all_append.2 ⟨k,g,b,a,c.symm,Heap.join_comm c⟩
theorem zJm{F:Heap}{L L' M:List SP}{x:Heap}(h:all F (L++M) x)(hL: ∀x,all F L x->all F L' x):all F (L'++M) x:=by
 obtain⟨g,k,a,b,c,rfl⟩:=all_append.1 h;exact all_append.2 ⟨g,k,hL g a,b,c,rfl⟩
theorem zGN{F:Heap}{A L M:List SP}{x:Heap}(h:all F (A++(L++M)) x):all F (L++(A++M)) x:=by
 rw[<-yE]at h⊢;exact zJm h λ_=>zOc
end
def zGp(P:Program)(t:TypeId):Option (Nat×TypeId):=match P.underlying t with
 |some (.array n e)=>some (n,e)
 |_=>none
theorem zAC{P:Program}{T e:TypeId}{n:Nat}(h:zGp P T=some (n,e)):P.underlying T=some (.array n e):=by
 unfold zGp at h;cases hu:P.underlying T with
 |none=>rw[hu]at h;cases h
 |some d=>rw[hu]at h;cases d<;>simp only at h<;>cases h;rfl
section
variable {P:Program} {N:Nat} {w0:World} {F0:Heap} {D:Own} {w:World} {F:Heap} {L L' M M':List SP} {B B':List (Option Box)} {ρ:Nat->Nat} {l:Env} {a:Act} {o:Oper} {ops:Array Oper} {lit:List Nat} {rest:List Oper} {Q:Exit->Act->World->Prop}
theorem Cx.zS3{α:Type}{d:Kind α}{e:TypeId}{k t m:Nat}{cells:List SV}(zs:List (α×d.Y))(h:Cx N w0 F0 D w F L B ρ l a)(hB:B[k]? =some (some ⟨e,cells⟩))(hs:look l t=some (.ptr k 0))(hz:cells=(zs.map λz=>d.f z.1 z.2).flatten)(hm:zs.length=m)(hlim:m<=4611686018427387904)
  (hpl: ∃vs,SV.zct cells=some vs) (hB':B.set k none=B'):
  ∃b,Cx N w0 F0 D w F (zhc e d (some ⟨b,0,none⟩) m (zs.map (·.1))::L) B' ρ ((t,.v (.pointer (some ⟨b,0,none⟩)))::l) a:=by
 subst hB';obtain⟨vs,hvs⟩:=hpl;have hden:=SV.zms ρ hvs;have hbg:=h.bgood _ (List.mem_of_getElem? hB)
 have hA:(zhc e d (some ⟨ρ k,0,none⟩) m (zs.map (·.1))).holds F (Heap.one (ρ k) (.cells (SV.zaV ρ cells).toArray e (0,0))):=by
  refine .inr ⟨_,_,rfl,rfl,by rw[List.length_map,hm];exact yJ _,by rw[maxLen_eq];omega,?_,?_⟩
  ·rw[List.size_toArray,zdg,hz,zIj,hm]
  ·rw[hden];rw[hz]at hvs;exact zIh d hvs (by have:=hbg.1;rw[<-hz];exact this)
 exact⟨ρ k,(h.zNB hB hA).zzf (s':= .v (.pointer (some ⟨ρ k,0,none⟩))) hs rfl trivial rfl⟩
theorem Cx.zvi{α:Type}{d:Kind α}{T e:TypeId}{x j:Operand}{b m:Nat}{xs:List α}{k:IntKind}{n:Int}{v:α}(h:Cx N w0 F0 D w F L B ρ l a)(hg:gd ops lit [] l o.guard=some .yes)(hd:zt4 N o.dst=true)
  (hop:o.op= .indexAddr T x j) (hT:zGp P T=some (m,e)) (hs:zcm P e=some d.sz) (hx:ov l x=some (.v (.pointer (some ⟨b,0,none⟩)))) (hj:ov l j=some (.v (.int k n))) (hv:zas xs n=some v) (hm:xs.length=m)
  (hK: ∀a',Cx N w0 F0 D w F L B ρ (after l o.dst (.v (.pointer (some ⟨b,n.toNat*d.sz,none⟩)))) a'->wpList P ops Q rest a' w):wpList P ops Q (o::rest) a w:=by
 have e1:a.eval x= .pointer (some ⟨b,0,none⟩):=h.eval hx;have e2:a.eval j= .int k n:=h.eval hj;unfold zas at hv;split at hv
 ·rename_i h0;have hlt:=(qz0 hv).1;refine h.zDc hg hd (s:= .v (.pointer (some ⟨b,n.toNat*d.sz,none⟩))) (ρ':=ρ) ?_ h trivial rfl (λa' h'=>hK a' h');have hu:=zAC hT;have hin:0<=n/\n< (m:Int):=⟨h0,by omega⟩
  unfold execOp;rw[hop];simp only[Instr.indexAt,e1,e2,asIntOf,Instr.sureAddr,Sem.run_bind,Sem.run_pure,Result.andThen_ok,run_underlying hu,hin,and_self,yB,zco hs,SV.den,zgN,pure_bind,Nat.zero_add]
 ·cases hv
theorem Cx.zRl{α:Type}{d:Kind α}{e:TypeId}{i:Nat}{A:Option Addr}{c:Nat}{xs:List α}(h:Cx N w0 F0 D w F L B ρ l a)(hL:L[i]? =some (zhc e d A c xs)):
  ∃F',Cx N w0 F0 D w F' (L.eraseIdx i) B ρ l a/\xs.length<=c/\Row F' d A xs:=by
 have hi':=zHd ρ B L hL;obtain⟨q,ha,hsub,hap,hd⟩:=h.st.own;obtain⟨g0,k0,hacc0,_,rfl,_,_⟩:=zma hi' ha
 obtain⟨g,hacc,hFg,hst⟩:=h.st.zNx hi' (λg hg hgs b o e1=>by
  have:g=g0:=zEq hg hgs hacc0 hsub.zfH;subst this;exact hd b o (Heap.zh1 e1))
 rw[zJH]at hst;refine⟨_,h.world (Heap.zdZ _ _) hst,?_⟩;rcases hacc with⟨rfl,rfl,rfl,rfl⟩| ⟨b,cells,rfl,rfl,h1,_,_,h2⟩
 ·exact⟨yJ _,.inl rfl⟩
 ·exact⟨h1,zPO (c:=c) F (Heap.zi3.1 hFg) h2⟩
theorem Cx.zR0{α:Type}{d:Kind α}{T e e2:TypeId}{x:Operand}{lo hi:Option Operand}{ol oh:Option Int}{xs r:List α}{i b m:Nat}(h:Cx N w0 F0 D w F L B ρ l a)(hg:gd ops lit [] l o.guard=some .yes)(hd:zt4 N o.dst=true)
  (hL:L[i]? =some (zhc e2 d (some ⟨b,0,none⟩) m xs)) (hm:xs.length=m)
  (hop:o.op= .slice T x lo hi none) (hT:zGp P T=some (m,e)) (hs:zcm P e=some d.sz) (hx:ov l x=some (.v (.pointer (some ⟨b,0,none⟩)))) (hl:bnd l lo=some ol) (hh:bnd l hi=some oh) (hr:zbv xs (ol.getD 0) (oh.getD xs.length)=some r)
  (hK: ∀F' A' c' a',Cx N w0 F0 D w F' (L.eraseIdx i) B ρ (after l o.dst (SV.sl d r A' c')) a'->wpList P ops Q rest a' w):wpList P ops Q (o::rest) a w:=by
 have e1:a.eval x= .pointer (some ⟨b,0,none⟩):=h.eval hx;have hu:=zAC hT;unfold zbv at hr;split at hr
 ·rename_i hc;cases hr
  have hlen:((xs.drop (ol.getD 0).toNat).take ((oh.getD xs.length).toNat - (ol.getD 0).toNat)).length=(oh.getD xs.length).toNat - (ol.getD 0).toNat:=by
   simp;omega
  have hb:=zE8 (P:=P) (b:=false) (cap:=m) (len:=m) h hl hh hc.1 (by rw[<-hm];exact hc.2.1) (by rw[<-hm];exact hc.2.2) (yJ _)
  have hrun:(Instr.sliceAt T (.pointer (some ⟨b,0,none⟩)) (lo.map a.eval) (hi.map a.eval) none).run P w= .ok (.slice (some (if m=(ol.getD 0).toNat then⟨b,0,none⟩else(⟨b,0,none⟩:Addr).add ((ol.getD 0).toNat*d.sz))) ((oh.getD xs.length).toNat - (ol.getD 0).toNat) (m - (ol.getD 0).toNat)) w:=by
   rw[hm];simp only[Instr.sliceAt,Sem.run_bind,run_underlying hu,Result.andThen_ok,Instr.sureAddr,Sem.run_pure,pure_bind,hb,zco hs]
  obtain⟨F',h2,hlc,hrow⟩:=h.zRl hL;refine h2.zDc (F':=F') hg hd (s:=SV.sl d _ (if m=(ol.getD 0).toNat then some ⟨b,0,none⟩else(some (⟨b,0,none⟩:Addr)).map (·.add ((ol.getD 0).toNat*d.sz))) (m - (ol.getD 0).toNat)) (ρ':=ρ) ?_ h2 ⟨by rw[hlen];omega,hrow.cut hlc (by omega)⟩ rfl (hK _ _ _)
  unfold execOp;rw[hop];have hrun':=hrun;simp only[e1,Sem.run_bind,Option.map_none,Sem.run_pure,pure_bind]at hrun'⊢;rw[hrun'];simp only[Result.andThen_ok,SV.sl,SV.den,hlen];congr 2;split<;>rfl
 ·cases hr
end
theorem No.zDp{n:Nat}{ρ:Nat->Nat}: ∀k b,No.known[k]? =some b->k<n/\ρ k=b:=λk b e=>by simp[No]at e
end Go.Gw
namespace Go.Gw
/-! ### what stands in a list of pieces -/
theorem contains_nil{sub:Str}(h:sub≠[]):Lib.contains [] sub=false:=by
 cases sub with
 |nil=>exact absurd rfl h
 |cons a l=>rfl
theorem contains_cons(b:UInt8)(l sub:Str):Lib.contains (b::l) sub=(sub.isPrefixOf (b::l)||Lib.contains l sub):=by
 unfold Lib.contains;rw[Lib.index];have h:=Lib.index_ge l sub;cases hp:sub.isPrefixOf (b::l)with
 |true=>simp
 |false=>
  simp only[qz2,yA,Bool.false_or];by_cases hi:Lib.index l sub= -1
  ·simp[hi]
  ·have c:(Lib.index l sub== -1)=false:=by rw[yH];exact hi
   rw[c];simp only[qz2,yA];rw[decide_eq_decide];omega
theorem ztt(c:UInt8): ∀s:Str,Lib.contains s [c]=s.contains c
 | []=>rfl
 |b::l=>by
  rw[contains_cons,ztt c l,List.contains_cons];simp[List.isPrefixOf]
theorem zAT(sub t:Str): ∀w:Str,(32:UInt8)∉w->Lib.contains (w++t) (32::sub)=Lib.contains t (32::sub)
 | [],_=>rfl
 |b::w,h=>by
  simp only[yP,not_or]at h;rw[yI,contains_cons,zAT sub t w h.2];have:((32:UInt8)==b)=false:=by rw[yH];exact h.1
  simp[List.isPrefixOf,this]
def joined:List Str->Str
 | []=>[32]
 |w::r=>32::(w++joined r)
theorem zJP(ws:List Str): ∃t,joined ws=32::t:=by cases ws<;>exact⟨_,rfl⟩
theorem zDL: ∀(s w t:Str),(32:UInt8)∉s->(32:UInt8)∉w->(s++[32]).isPrefixOf (w++32::t)=(s==w)
 | [],[],t,_,_=>by simp[List.isPrefixOf]
 | [],b::w,t,_,h=>by
  simp only[yP,not_or]at h;have:((32:UInt8)==b)=false:=by rw[yH];exact h.1
  simp[List.isPrefixOf,this]
 |a::s,[],t,h,_=>by
  simp only[yP,not_or]at h;have:(a==(32:UInt8))=false:=by rw[yH];exact λe=>h.1 e.symm
  simp[List.isPrefixOf,this]
 |a::s,b::w,t,h,h'=>by
  simp only[yP,not_or]at h h';simp only[yI,List.isPrefixOf,zDL s w t h.2 h'.2];rfl
theorem zm1(s:Str)(hs:(32:UInt8)∉s): ∀ws:List Str,(∀w∈ws,(32:UInt8)∉w)->Lib.contains (joined ws) (32::(s++[32]))=ws.contains s
 | [],_=>by
  unfold joined;rw[contains_cons,contains_nil (by simp)];cases s<;>simp[List.isPrefixOf]
 |w::r,h=>by
  have hw:=h w (by simp);have ih:=zm1 s hs r (λx hx=>h x (by simp[hx]));obtain⟨t,ht⟩:=zJP r;unfold joined;rw[contains_cons,zAT _ _ _ hw,ih,List.contains_cons]
  have:List.isPrefixOf (32::(s++[32])) (32::(w++joined r))=(s==w):=by
   simp only[List.isPrefixOf,beq_self_eq_true,Bool.true_and];rw[ht];exact zDL s w t hs hw
  rw[this]
/-! ### letters, digits, rows -/
def isLet(c:UInt8):Bool:=decide ((97<=c.toNat/\c.toNat<=122)\/(65<=c.toNat/\c.toNat<=90)\/c.toNat=95\/c.toNat=36)
def zkG(c:UInt8):Bool:=decide (48<=c.toNat/\c.toNat<=57)
def zeA(c:UInt8):Bool:=isLet c||zkG c
def zaC(s:Str):Nat:=(s.takeWhile zeA).length
theorem zrQ: ∀s:Str,zaC s<=s.length
 | []=>by simp[zaC]
 |c::r=>by
  have:=zrQ r;unfold zaC at this⊢;rw[List.takeWhile_cons];split<;>simp<;>omega
theorem zft(c:UInt8)(r:Str):zaC (c::r)=if zeA c then zaC r+1 else 0:=by
 unfold zaC;rw[List.takeWhile_cons];split<;>simp
theorem zMp(s:Str):(s.take (zaC s)).all zeA=true:=by
 induction s with
 |nil=>rfl
 |cons c r ih=>
  rw[zft];cases hc:zeA c with
  |true=>simp only[yB,List.take_succ_cons,List.all_cons,hc,ih,Bool.true_and]
  |false=>simp
/-! ### blanks -/
def zdj(c:UInt8):Bool:=([10,13]:Str).contains c
def zlK:Str->Option Nat
 | []=>none
 |c::r=>if([42,47]:Str).isPrefixOf (c::r)then some 0 else(zlK r).map (· +1)
theorem zAM: ∀s:Str,Lib.index s [42,47]=match zlK s with
  |none=> -1
  |some n=>(n:Int)
 | []=>rfl
 |c::r=>by
  rw[Lib.index,zlK];split
  ·rfl
  ·rw[zAM r];cases zlK r with
   |none=>rfl
   |some n=>
    have c:(((n:Nat):Int)== -1)=false:=by rw[yH];omega
    simp only[c,qz2,yA,Option.map_some];rfl
theorem zGo: ∀(s:Str) (n:Nat),zlK s=some n->n+2<=s.length
 | [],n,h=>by cases h
 |c::r,n,h=>by
  rw[zlK]at h;split at h
  ·rename_i hp;simp only[Option.some.injEq]at h;cases r with
   |nil=>simp[List.isPrefixOf]at hp
   |cons d r=>simp;omega
  ·cases he:zlK r with
   |none=>rw[he]at h;cases h
   |some k=>rw[he]at h;simp only[Option.map_some,Option.some.injEq]at h;have:=zGo r k he;simp;omega
def zew:Nat->Str->Bool->Str×Bool×Bool
 |0,s,f=>(s,f,true)
 |_+1,[],f=>([],f,true)
 |m+1,c::r,f=>
  if zdj c then zew m r true
  else if c=32\/c=9\/c=11\/c=12 then zew m r f
  else if([47,47]:Str).isPrefixOf (c::r)then zew m ((c::r).dropWhile (λx=> !zdj x)) f
  else if([47,42]:Str).isPrefixOf (c::r)then
   (match zlK ((c::r).drop 2)with
   |none=>(c::r,f,false)
   |some n=>zew m ((c::r).drop (n+4)) (f||(((c::r).drop 2).take n).any zdj))
  else(c::r,f,true)
theorem zoB{α:Type}(p:α->Bool): ∀l:List α,(l.dropWhile p).length<=l.length
 | []=>yJ _
 |a::l=>by
  rw[List.dropWhile_cons];have:=zoB p l;split<;>simp<;>omega
theorem zi2: ∀(m:Nat) (s:Str) (f:Bool),(zew m s f).1.length<=s.length
 |0,s,f=>yJ _
 |m+1,[],f=>yJ _
 |m+1,c::r,f=>by
  unfold zew;split
  ·have:=zi2 m r true;simp;omega
  ·split
   ·have:=zi2 m r f;simp;omega
   ·split
    ·have:=zi2 m ((c::r).dropWhile (λx=> !zdj x)) f;have h:=zoB (λx=> !zdj x) (c::r);omega
    ·split
     ·split
      ·exact yJ _
      ·rename_i n _;have:=zi2 m ((c::r).drop (n+4)) (f||(((c::r).drop 2).take n).any zdj);have h:((c::r).drop (n+4)).length<=(c::r).length:=by simp only[List.length_drop];omega
       omega
     ·exact yJ _
end Go.Gw
namespace Go.Gw
open Go.RowKit
section
variable {P:Program} {N:Nat} {w0:World} {F0:Heap} {D:Own} {w:World} {F:Heap} {L L' M M':List SP} {B B':List (Option Box)} {ρ:Nat->Nat} {l:Env} {a:Act} {o:Oper} {ops:Array Oper} {lit:List Nat} {rest:List Oper} {Q:Exit->Act->World->Prop}
theorem zIw(w:World)(g n x:Nat)(hx:x≠g):(w.freeze ⟨g,0,none⟩ n).heap[x]? =w.heap[x]? :=by
 unfold World.freeze;split
 ·rfl
 ·simp[Array.getElem?_modify,Ne.symm hx]
theorem zJI(w:World)(p:Addr)(n:Nat):(w.freeze p n).heap.size=w.heap.size:=by
 unfold World.freeze;split
 ·rfl
 ·simp
theorem zxg(w:World)(p:Addr)(n:Nat):(w.freeze p n).os=w.os/\(w.freeze p n).tape=w.tape/\(w.freeze p n).output=w.output:=by
 unfold World.freeze;split<;>exact⟨rfl,rfl,rfl⟩
end
def zEo{α:Type}(m:Nat)(xs:List α)(i:Int):Option α:=if xs.length=m then zas xs i else none
theorem zi4{α:Type}{m:Nat}{xs:List α}{i:Int}{v:α}(h:zEo m xs i=some v):xs.length=m/\zas xs i=some v:=by
 unfold zEo at h;split at h
 ·exact⟨by assumption,h⟩
 ·cases h
def zN4{α:Type}(m:Nat)(xs:List α)(lo hi:Int):Option (List α):=if xs.length=m then zbv xs lo hi else none
theorem zGI{α:Type}{m:Nat}{xs:List α}{lo hi:Int}{v:List α}(h:zN4 m xs lo hi=some v):xs.length=m/\zbv xs lo hi=some v:=by
 unfold zN4 at h;split at h
 ·exact⟨by assumption,h⟩
 ·cases h
section
variable {P:Program} {N:Nat} {w0:World} {F0:Heap} {D:Own} {w:World} {F:Heap} {L L' M M':List SP} {B B':List (Option Box)} {ρ:Nat->Nat} {l:Env} {a:Act} {o:Oper} {ops:Array Oper} {lit:List Nat} {rest:List Oper} {Q:Exit->Act->World->Prop}
theorem Cx.zS5{T:TypeId}{x j:Operand}{g n:Nat}{k:IntKind}{v:Value}(h:Cx N w0 F0 D w F L B ρ l a)(hg:gd ops lit [] l o.guard=some .yes)(hd:zt4 N o.dst=true)
  (hop:o.op= .indexAddr T x j) (hT:(zGp P T).any (λp=>Nat.blt n p.1&&(match zcm P p.2 with|some s=>Nat.beq s 1|none=>false))=true) (hx:ov l x=some (.v (.pointer (some ⟨g,0,none⟩)))) (hj:ov l j=some (.v (.int k n))) (hv:zkF F g n v)
  (hK: ∀a',Cx N w0 F0 D w F L B ρ (after l o.dst (.el g n [.v v])) a'->wpList P ops Q rest a' w):wpList P ops Q (o::rest) a w:=by
 have e1:a.eval x= .pointer (some ⟨g,0,none⟩):=h.eval hx;have e2:a.eval j= .int k n:=h.eval hj;cases hA:zGp P T with
 |none=>rw[hA]at hT;cases hT
 |some p=>
  obtain⟨m',e'⟩:=p;rw[hA]at hT;simp only[Option.any_some,qz4]at hT;obtain⟨h1,h2⟩:=hT;have h1:n<m':=yD h1
  have hs:zcm P e'=some 1:=by
   cases hs:zcm P e' with
   |none=>rw[hs]at h2;cases h2
   |some s=>rw[hs]at h2;rw[yC h2]
  refine h.zDc hg hd (s:= .el g n [.v v]) (ρ':=ρ) ?_ h ⟨⟨trivial,trivial⟩,[v],rfl,λq u hq=>?_⟩ rfl hK
  ·have hu:=zAC hA;have hin:0<=(n:Int)/\(n:Int)< (m':Int):=⟨by omega,by omega⟩
   unfold execOp;rw[hop];simp only[Instr.indexAt,e1,e2,asIntOf,Instr.sureAddr,Sem.run_bind,Sem.run_pure,Result.andThen_ok,run_underlying hu,hin,and_self,yB,zco hs,SV.den,zgN,pure_bind,Nat.zero_add,Int.toNat_natCast,Nat.mul_one]
  ·cases q with
   |zero=>cases hq;exact hv
   |succ q=>simp at hq
end
theorem zJk{P:Program}{t:TypeId}{z:Value}(h:(match P.info? t with|some i=>i.zero|none=>none)=some z)(w:World):(zeroValue t).run P w= .ok z w:=by
 cases hi:P.info? t with
 |none=>rw[hi]at h;cases h
 |some i=>rw[hi]at h;exact zfU hi h w
section
variable {P:Program} {N:Nat} {w0:World} {F0:Heap} {D:Own} {w:World} {F:Heap} {L L' M M':List SP} {B B':List (Option Box)} {ρ:Nat->Nat} {l:Env} {a:Act} {o:Oper} {ops:Array Oper} {lit:List Nat} {rest:List Oper} {Q:Exit->Act->World->Prop}
end
inductive zaQ where
 |nil
 |code (t:TypeId) (n:Int)
 |opq
 deriving DecidableEq
def zaQ.isNil:zaQ->Bool
 | .nil=>true
 |_=>false
def zqx:zaQ->TypeId×Value->Value
 | .nil,_=> .nilIface
 | .code t n,_=> .iface t (.int .i64 n)
 | .opq,y=> .iface y.1 y.2
def zOv:TypeId×Value:=(0,.nilIface)
section
variable {P:Program} {N:Nat} {w0:World} {F0:Heap} {D:Own} {w:World} {F:Heap} {L L' M M':List SP} {B B':List (Option Box)} {ρ:Nat->Nat} {l:Env} {a:Act} {o:Oper} {ops:Array Oper} {lit:List Nat} {rest:List Oper} {Q:Exit->Act->World->Prop}
end
end Go.Gw
namespace Go.Dn
open Go.Gw Go.RowKit
inductive AV (T:Nat->Type) where
 |junk
 |v (x:Value)
 |sl (e:Nat) (xs:List (T e))
 |own (k:Nat)
 |oel (k s:Nat) (i:Int) (off:Nat)
 |ptr (k off:Nat)
 |el (l:List (AV T))
 |agg (l:List (AV T))
 |tup (l:List (AV T))
 |fn (f:Nat) (l:List (AV T))
 |err (x:zaQ)
structure Tys where
 T:Nat->Type
 sz:Nat->Nat
 cells:(e:Nat)->T e->List (AV T)
 close:(e:Nat)->List (AV T)->Option (T e)
 byt:Nat
 isB:T byt=UInt8
 bld:Nat->List Nat
 /-- what may be a key:strings (some none),numbers -/
 kt:Nat->Option (Option IntKind)
 /-- a value of several cells -/
 row:Nat->Bool
structure Pl where
 blk:Nat
 A:Option Addr
 n:Nat
 c:Nat
 mp:Bool
def Pl.val(p:Pl):Value:=bif p.mp then .map (some p.blk)else .slice p.A p.n p.c
theorem Pl.zsS{p:Pl}(h:p.mp=false):p.val= .slice p.A p.n p.c:=by unfold Pl.val;rw[h];rfl
theorem Pl.zUo{p:Pl}(h:p.mp=true):p.val= .map (some p.blk):=by unfold Pl.val;rw[h];rfl
structure zty (K V:Type) where
 es:List (K×V×Nat)
 clock:Nat
inductive Rel (Y:Tys) (F:Heap) (ρ:List Pl):AV Y.T->Value->Prop where
 |junk {u:Value}:Rel Y F ρ .junk u
 |v {x:Value}:Rel Y F ρ (.v x) x
 |sl {e:Nat} {xs:List (Y.T e)} {A:Option Addr} {c:Nat} (b off:Nat) (vs:Nat->List Value) (hc:xs.length<=c) (hA: ∀(i:Nat) (x:Y.T e),xs[i]? =some x->A=some ⟨b,off,none⟩)
     (hv: ∀(i:Nat) (x:Y.T e),xs[i]? =some x->(vs i).length=Y.sz e/\zoo F b (off+i*Y.sz e) (vs i))
     (h: ∀(i:Nat) (x:Y.T e) (j:Nat) (a:AV Y.T) (u:Value),xs[i]? =some x->(Y.cells e x)[j]? =some a->(vs i)[j]? =some u->Rel Y F ρ a u):Rel Y F ρ (.sl e xs) (.slice A xs.length c)
 |own {k:Nat} {pl:Pl} (h:ρ[k]? =some pl):Rel Y F ρ (.own k) pl.val
 |oel {k s:Nat} {i:Int} {off:Nat} {pl:Pl} (h:ρ[k]? =some pl):Rel Y F ρ (.oel k s i off) (.pointer (some ⟨pl.blk,i.toNat*s+off,none⟩))
 |ptr {k off:Nat} {pl:Pl} (h:ρ[k]? =some pl):Rel Y F ρ (.ptr k off) (.pointer (some ⟨pl.blk,off,none⟩))
 |el {l:List (AV Y.T)} {b off:Nat} (vs:List Value) (hl:vs.length=l.length) (hc:zoo F b off vs) (h: ∀(j:Nat) (a:AV Y.T) (u:Value),l[j]? =some a->vs[j]? =some u->Rel Y F ρ a u):Rel Y F ρ (.el l) (.pointer (some ⟨b,off,none⟩))
 |agg {l:List (AV Y.T)} {vs:List Value} (hl:vs.length=l.length) (h: ∀(j:Nat) (a:AV Y.T) (u:Value),l[j]? =some a->vs[j]? =some u->Rel Y F ρ a u):Rel Y F ρ (.agg l) (.agg vs.toArray)
 |tup {l:List (AV Y.T)} {vs:List Value} (hl:vs.length=l.length) (h: ∀(j:Nat) (a:AV Y.T) (u:Value),l[j]? =some a->vs[j]? =some u->Rel Y F ρ a u):Rel Y F ρ (.tup l) (.tuple vs.toArray)
 |fn {f:Nat} {l:List (AV Y.T)} {vs:List Value} (hl:vs.length=l.length) (h: ∀(j:Nat) (a:AV Y.T) (u:Value),l[j]? =some a->vs[j]? =some u->Rel Y F ρ a u):Rel Y F ρ (.fn f l) (.func (.func f) #[] vs.toArray)
 |err {e:zaQ} {q:TypeId×Value}:Rel Y F ρ (.err e) (zqx e q)
def zad(Y:Tys)(F:Heap)(ρ:List Pl)(l:List (AV Y.T))(vs:List Value):Prop:=
 vs.length=l.length/\∀(j:Nat) (a:AV Y.T) (u:Value),l[j]? =some a->vs[j]? =some u->Rel Y F ρ a u
section lists
variable {Y:Tys} {F:Heap} {ρ:List Pl}
theorem zad.nil:zad Y F ρ [] []:=⟨rfl,λ_ _ _ h=>by simp at h⟩
theorem zad.cons{a:AV Y.T}{u:Value}{l:List (AV Y.T)}{vs:List Value}(h:Rel Y F ρ a u)(r:zad Y F ρ l vs):zad Y F ρ (a::l) (u::vs):=
 ⟨by simp[r.1],λj b x hb hx=>by
   cases j with
   |zero=>simp at hb hx;subst hb;subst hx;exact h
   |succ j=>exact r.2 j b x (by simpa using hb) (by simpa using hx)⟩
theorem zad.inv{a:AV Y.T}{l:List (AV Y.T)}{vs:List Value}(h:zad Y F ρ (a::l) vs): ∃u r,vs=u::r/\Rel Y F ρ a u/\zad Y F ρ l r:=by
 cases vs with
 |nil=>have:=h.1;simp at this
 |cons u r=>
   exact⟨u,r,rfl,h.2 0 a u rfl rfl,by have:=h.1;simpa using this,λj b x hb hx=>h.2 (j+1) b x (by simpa using hb) (by simpa using hx)⟩
theorem zad.zg2{vs:List Value}(h:zad Y F ρ [] vs):vs=[]:=List.length_eq_zero_iff.1 h.1
theorem zad.append{l m:List (AV Y.T)}{vs us:List Value}(h:zad Y F ρ l vs)(k:zad Y F ρ m us):zad Y F ρ (l++m) (vs++us):=
 ⟨by simp[h.1,k.1],λj a u ha hu=>by
   by_cases hj:j<l.length
   · rw[yF hj]at ha;rw[yF (by rw[h.1];exact hj)]at hu
     exact h.2 j a u ha hu
   · rw[yG (by omega)]at ha;rw[yG (by rw[h.1];omega),h.1]at hu
     exact k.2 _ a u ha hu⟩
theorem zad.take{l:List (AV Y.T)}{vs:List Value}(h:zad Y F ρ l vs)(n:Nat):zad Y F ρ (l.take n) (vs.take n):=
 ⟨by simp[h.1],λj a u ha hu=>by
   rw[List.getElem?_take]at ha hu;split at ha
   · rename_i hj;rw[yL hj]at hu;exact h.2 j a u ha hu
   · cases ha⟩
theorem zad.drop{l:List (AV Y.T)}{vs:List Value}(h:zad Y F ρ l vs)(n:Nat):zad Y F ρ (l.drop n) (vs.drop n):=
 ⟨by simp[h.1],λj a u ha hu=>by
   rw[List.getElem?_drop]at ha hu;exact h.2 _ a u ha hu⟩
theorem zad.get{l:List (AV Y.T)}{vs:List Value}(h:zad Y F ρ l vs){j:Nat}{a:AV Y.T}(ha:l[j]? =some a): ∃u,vs[j]? =some u/\Rel Y F ρ a u:=by
 have hj:=(qz0 ha).1;have hj':j<vs.length:=by rw[h.1];exact hj
 exact⟨vs[j],qz9 hj',h.2 j a _ ha (qz9 hj')⟩
theorem zad.v(vs:List Value):zad Y F ρ (vs.map .v) vs:=⟨by simp,λj a u ha hu=>by
 rw[List.getElem?_map,hu]at ha;cases ha;exact .v⟩
theorem Rel.mono{F':Heap}{ρ':List Pl}(hF:F.Le F')(hρ: ∀(k:Nat) (p:Pl),ρ[k]? =some p->ρ'[k]? =some p){a:AV Y.T}{u:Value}(h:Rel Y F ρ a u):Rel Y F' ρ' a u:=by
 induction h with
 |junk=>exact .junk
 |v=>exact .v
 |sl b off vs hc hA hv _ ih=>exact .sl b off vs hc hA (λi x hx=>⟨(hv i x hx).1,zmq hF (hv i x hx).2⟩) ih
 |own h=>exact .own (hρ _ _ h)
 |oel h=>exact .oel (hρ _ _ h)
 |ptr h=>exact .ptr (hρ _ _ h)
 |el vs hl hc _ ih=>exact .el vs hl (zmq hF hc) ih
 |agg hl _ ih=>exact .agg hl ih
 |tup hl _ ih=>exact .tup hl ih
 |fn hl _ ih=>exact .fn hl ih
 |err=>exact .err
theorem zad.mono{F':Heap}{ρ':List Pl}(hF:F.Le F')(hρ: ∀(k:Nat) (p:Pl),ρ[k]? =some p->ρ'[k]? =some p){l:List (AV Y.T)}{vs:List Value}(h:zad Y F ρ l vs):zad Y F' ρ' l vs:=
 ⟨h.1,λj a u ha hu=>(h.2 j a u ha hu).mono hF hρ⟩
end lists
structure Sb (T:Nat->Type) where
 own:Nat->AV T
 oel:Nat->Nat->Int->Nat->AV T
 ptr:Nat->Nat->AV T
section
variable {T:Nat->Type}
mutual
def AV.sub(s:Sb T):AV T->AV T
 | .junk=> .junk
 | .v x=> .v x
 | .sl e xs=> .sl e xs
 | .own k=>s.own k
 | .oel k z i off=>s.oel k z i off
 | .ptr k off=>s.ptr k off
 | .el l=> .el (AV.subs s l)
 | .agg l=> .agg (AV.subs s l)
 | .tup l=> .tup (AV.subs s l)
 | .fn f l=> .fn f (AV.subs s l)
 | .err e=> .err e
def AV.subs(s:Sb T):List (AV T)->List (AV T)
 | []=>[]
 |a::l=>a.sub s::AV.subs s l
end
mutual
def AV.free:AV T->Bool
 | .own _=>false
 | .oel .. =>false
 | .ptr .. =>false
 | .el l=>AV.frees l
 | .agg l=>AV.frees l
 | .tup l=>AV.frees l
 | .fn _ l=>AV.frees l
 |_=>true
def AV.frees:List (AV T)->Bool
 | []=>true
 |a::l=>a.free&&AV.frees l
end
mutual
theorem AV.zEd(s:Sb T): ∀a:AV T,a.free=true->a.sub s=a
 | .junk,_=>rfl
 | .v _,_=>rfl
 | .sl ..,_=>rfl
 | .el l,h=>by simp only[AV.sub];rw[AV.zsg s l (by simpa [AV.free]using h)]
 | .agg l,h=>by simp only[AV.sub];rw[AV.zsg s l (by simpa [AV.free]using h)]
 | .tup l,h=>by simp only[AV.sub];rw[AV.zsg s l (by simpa [AV.free]using h)]
 | .fn _ l,h=>by simp only[AV.sub];rw[AV.zsg s l (by simpa [AV.free]using h)]
 | .err _,_=>rfl
 | .own _,h=>by simp[AV.free]at h
 | .oel ..,h=>by simp[AV.free]at h
 | .ptr ..,h=>by simp[AV.free]at h
theorem AV.zsg(s:Sb T): ∀l:List (AV T),AV.frees l=true->AV.subs s l=l
 | [],_=>rfl
 |a::l,h=>by
   simp only[AV.frees,qz4]at h;simp only[AV.subs];rw[AV.zEd s a h.1,AV.zsg s l h.2]
end
theorem AV.zpA(s:Sb T): ∀l:List (AV T),AV.subs s l=l.map (AV.sub s)
 | []=>rfl
 |a::l=>by simp only[AV.subs,List.map_cons];rw[AV.zpA s l]
theorem AV.zsE: ∀{l:List (AV T)},AV.frees l=true↔∀a∈l,a.free=true
 | []=>by simp[AV.frees]
 |a::l=>by simp[AV.frees,AV.zsE]
def AV.one:AV T->Bool
 | .junk=>false
 | .v x=>x.oneCell'
 | .agg _=>false
 | .tup _=>false
 | .err _=>true
 |_=>true
def AV.ones:List (AV T)->Bool
 | []=>true
 |a::l=>a.one&&AV.ones l
theorem AV.zIT: ∀{l:List (AV T)},AV.ones l=true↔∀a∈l,a.one=true
 | []=>by simp[AV.ones]
 |a::l=>by simp[AV.ones,AV.zIT]
end
def zKU{T:Nat->Type}:Option IntKind->List (AV T)->Prop
 |none,l=>∃s,l=[.v (.string s)]
 |some q,l=>∃n,l=[.v (.int q n)]
structure zb8 (Y:Tys):Prop where
 len: ∀e (x:Y.T e),(Y.cells e x).length=Y.sz e
 free: ∀e (x:Y.T e),AV.frees (Y.cells e x)=true
 one: ∀e (x:Y.T e),AV.ones (Y.cells e x)=true
 byte: ∀x:Y.T Y.byt,Y.cells Y.byt x=[.v (.int .u8 ((cast Y.isB x).toNat:Int))]
 fit: ∀e (l:List (AV Y.T)) (x:Y.T e),Y.close e l=some x->∀F ρ vs,zad Y F ρ l vs->zad Y F ρ (Y.cells e x) vs
 key: ∀k q,Y.kt k=some q->∀x:Y.T k,zKU q (Y.cells k x)
section
variable {Y:Tys} {F:Heap} {ρ:List Pl}
theorem Rel.one{a:AV Y.T}{u:Value}(h:Rel Y F ρ a u)(h1:a.one=true):u.oneCell'=true:=by
 cases h with
 |v=>exact h1
 | @err e q=>cases e<;>rfl
 |junk=>simp[AV.one]at h1
 | @own _ pl _=>unfold Pl.val;cases pl.mp<;>rfl
 |agg=>simp[AV.one]at h1
 |tup=>simp[AV.one]at h1
 |_=>rfl
theorem zad.ones{l:List (AV Y.T)}{vs:List Value}(h:zad Y F ρ l vs)(h1:AV.ones l=true): ∀u∈vs,u.oneCell'=true:=by
 intro u hu;obtain⟨j,hj⟩:=List.mem_iff_getElem?.1 hu;have hlt:j<l.length:=by rw[<-h.1];exact(qz0 hj).1
 exact(h.2 j l[j] u (qz9 hlt) hj).one (AV.zIT.1 h1 _ (List.getElem_mem hlt))
theorem Rel.sub(hY:zb8 Y){F':Heap}{ρ':List Pl}(hF:F.Le F')(s:Sb Y.T)(ho: ∀(k:Nat) (p:Pl),ρ[k]? =some p->Rel Y F' ρ' (s.own k) p.val)
   (he: ∀(k z:Nat) (i:Int) (off:Nat) (p:Pl),ρ[k]? =some p->Rel Y F' ρ' (s.oel k z i off) (.pointer (some ⟨p.blk,i.toNat*z+off,none⟩))) (hp: ∀(k off:Nat) (p:Pl),ρ[k]? =some p->Rel Y F' ρ' (s.ptr k off) (.pointer (some ⟨p.blk,off,none⟩)))
   {a:AV Y.T} {u:Value} (h:Rel Y F ρ a u):Rel Y F' ρ' (a.sub s) u:=by
 have lists: ∀{l:List (AV Y.T)} {vs:List Value},(∀(j:Nat) (a:AV Y.T) (u:Value),l[j]? =some a->vs[j]? =some u->Rel Y F' ρ' (a.sub s) u)->∀(j:Nat) (a:AV Y.T) (u:Value),(AV.subs s l)[j]? =some a->vs[j]? =some u->Rel Y F' ρ' a u:=by
   intro l vs ih j a u ha hu;rw[AV.zpA,List.getElem?_map]at ha;cases hl:l[j]? with
   |none=>rw[hl]at ha;cases ha
   |some b=>rw[hl]at ha;cases ha;exact ih j b u hl hu
 induction h with
 |junk=>exact .junk
 |v=>exact .v
 | @sl e xs A c b off vs hc hA hv _ ih=>
   refine .sl b off vs hc hA (λi x hx=>⟨(hv i x hx).1,zmq hF (hv i x hx).2⟩) λi x j a u hx ha hu=>?_
   have:=ih i x j a u hx ha hu;rwa [AV.zEd s a (AV.zsE.1 (hY.free e x) a (List.mem_of_getElem? ha))]at this
 |own h=>exact ho _ _ h
 |oel h=>exact he _ _ _ _ _ h
 |ptr h=>exact hp _ _ _ h
 |el vs hl hc _ ih=>exact .el vs (by rw[AV.zpA];simpa using hl) (zmq hF hc) (lists ih)
 |agg hl _ ih=>exact .agg (by rw[AV.zpA];simpa using hl) (lists ih)
 |tup hl _ ih=>exact .tup (by rw[AV.zpA];simpa using hl) (lists ih)
 |fn hl _ ih=>exact .fn (by rw[AV.zpA];simpa using hl) (lists ih)
 |err=>exact .err
theorem zad.sub(hY:zb8 Y){F':Heap}{ρ':List Pl}(hF:F.Le F')(s:Sb Y.T)(ho: ∀(k:Nat) (p:Pl),ρ[k]? =some p->Rel Y F' ρ' (s.own k) p.val)
   (he: ∀(k z:Nat) (i:Int) (off:Nat) (p:Pl),ρ[k]? =some p->Rel Y F' ρ' (s.oel k z i off) (.pointer (some ⟨p.blk,i.toNat*z+off,none⟩))) (hp: ∀(k off:Nat) (p:Pl),ρ[k]? =some p->Rel Y F' ρ' (s.ptr k off) (.pointer (some ⟨p.blk,off,none⟩)))
   {l:List (AV Y.T)} {vs:List Value} (h:zad Y F ρ l vs):zad Y F' ρ' (AV.subs s l) vs:=by
 refine⟨by rw[AV.zpA];simpa using h.1,λj a u ha hu=>?_⟩
 rw[AV.zpA,List.getElem?_map]at ha;cases hl:l[j]? with
 |none=>rw[hl]at ha;cases ha
 |some b=>rw[hl]at ha;cases ha;exact(h.2 j b u hl hu).sub hY hF s ho he hp
theorem Rel.closed(hY:zb8 Y){ρ':List Pl}{a:AV Y.T}{u:Value}(h:Rel Y F ρ a u)(ha:a.free=true):Rel Y F ρ' a u:=by
 have:=h.sub hY (.refl F) (ρ':=ρ') ⟨λ_=> .junk,λ_ _ _ _=> .junk,λ_ _=> .junk⟩ (λ_ _ _=> .junk) (λ_ _ _ _ _ _=> .junk) (λ_ _ _ _=> .junk);rwa [AV.zEd _ a ha]at this
theorem zad.closed(hY:zb8 Y){ρ':List Pl}{l:List (AV Y.T)}{vs:List Value}(h:zad Y F ρ l vs)(ha:AV.frees l=true):zad Y F ρ' l vs:=
 ⟨h.1,λj a u h1 h2=>(h.2 j a u h1 h2).closed hY (AV.zsE.1 ha a (List.mem_of_getElem? h1))⟩
def kR(hY:zb8 Y)(e:Nat):Kind (Y.T e) where
 sz:=Y.sz e
 Y:={us:List Value//us.length=Y.sz e/\∀u∈us,u.oneCell'=true}
 f x us:=us.1.map λu=> .p ⟨λF=>zad Y F [] (Y.cells e x) us.1,λhle h=>h.mono hle λ_ _ h=>by simp at h⟩ u
 holds F x us:=zad Y F [] (Y.cells e x) us
 mono hle h:=h.mono hle λ_ _ h=>by simp at h
 opn:=by
   intro F x us h;have hl:us.length=Y.sz e:=by rw[h.1,hY.len]
   have hp: ∀(q:Value->PP) (l:List Value),SV.zct (l.map λu=>SV.p (q u) u)=some l:=by
     intro q l;induction l with
     |nil=>rfl
     |cons u l ih=>simp only[List.map_cons,SV.zct,SV.plain,ih]
   exact⟨⟨us,hl,h.ones (hY.one e x)⟩,hp _ us,SV.zcW.2 λs hs=>by
     obtain⟨u,hu,rfl⟩:=List.mem_map.1 hs;exact h⟩
 shut:=by
   intro F x y cs e1 g
   have hp: ∀(q:Value->PP) (l:List Value),SV.zct (l.map λu=>SV.p (q u) u)=some l:=by
     intro q l;induction l with
     |nil=>rfl
     |cons u l ih=>simp only[List.map_cons,SV.zct,SV.plain,ih]
   rw[hp]at e1;cases e1;cases hu:y.1 with
   |nil=>
     have h0:Y.sz e=0:=by rw[<-y.2.1,hu];rfl
     have h1:Y.cells e x=[]:=List.length_eq_zero_iff.1 (by rw[hY.len,h0]);rw[h1];exact zad.nil
   |cons u r=>
     rw[hu]at g;exact g.1
 closed x y:=by
   have: ∀(q:Value->PP) (l:List Value),SV.zbE 0 (l.map λu=>SV.p (q u) u)=true:=by
     intro q l;induction l with
     |nil=>rfl
     |cons u l ih=>simp only[List.map_cons,SV.zbE,SV.under,ih,Bool.and_self]
   exact this _ _
 len x y:=by simp[y.2.1]
 ones x y:=by
   have: ∀(q:Value->PP) (l:List Value),(∀u∈l,u.oneCell'=true)->SV.ones (l.map λu=>SV.p (q u) u)=true:=by
     intro q l;induction l with
     |nil=>intro _;rfl
     |cons u l ih=>intro h;simp only[List.map_cons,SV.ones,SV.one,h u qz7,ih λv hv=>h v (qz8 _ hv),Bool.and_self]
   exact this _ _ y.2.2
inductive Mem (T:Nat->Type) where
 |gone
 |cells (ty:TypeId) (l:List (AV T))
 |arr (e:Nat) (xs:List (T e))
 |mp (k e:Nat) (x:zty (T k) (T e))
 |it (s:Str) (pos:Nat)
def Mem.still{T:Nat->Type}:Mem T->Bool
 | .gone=>true
 | .cells .. =>true
 |_=>false
def zqn(p:Pl):Option Obj->SP
 |some o=>pt p.blk o
 |none=>emp
def pts:List Pl->List (Option Obj)->List SP
 |p::ρ,o::os=>zqn p o::pts ρ os
 |_,_=>[]
def zzw(l:List Nat)(p:Pl)(vs:List Value):Prop:=∀b∈l,vs[b]? =some (.pointer none)\/vs[b]? =some (.pointer (some ⟨p.blk,b,none⟩))
def zEF{T:Nat->Type}:List Nat->List (AV T)->Bool
 | [],_=>true
 |b::r,l=>(match l[b]? with|some (.v (.pointer none))=>true|_=>false)&&zEF r l
def zCF(off n:Nat):List Nat->Bool
 | []=>true
 |b::r=>(Nat.blt b off||Nat.ble (off+n) b)&&zCF off n r
def zTP(b:Bool)(us:List Value):Value:=bif b then .agg us.toArray else us.headD undef
structure zsV (Y:Tys) (F:Heap) (k e:Nat) (x:Y.T k×Y.T e×Nat) (en:MapEntry):Prop where
 born:en.born=x.2.2
 key:zad Y F [] (Y.cells k x.1) [en.key]
 val: ∃us,zad Y F [] (Y.cells e x.2.1) us/\en.val=zTP (Y.row e) us
inductive zev (Y:Tys) (F:Heap) (k e:Nat):List (Y.T k×Y.T e×Nat)->List MapEntry->Prop where
 |nil:zev Y F k e [] []
 |cons {x:Y.T k×Y.T e×Nat} {en:MapEntry} {xs:List (Y.T k×Y.T e×Nat)} {es:List MapEntry} (h:zsV Y F k e x en) (r:zev Y F k e xs es):zev Y F k e (x::xs) (en::es)
theorem zsV.mono{Y:Tys}{F F':Heap}{k e:Nat}{x:Y.T k×Y.T e×Nat}{en:MapEntry}(hF:F.Le F')(h:zsV Y F k e x en):zsV Y F' k e x en:=
 ⟨h.born,h.key.mono hF (λ_ _ h=>h),let⟨us,h1,h2⟩:=h.val;⟨us,h1.mono hF (λ_ _ h=>h),h2⟩⟩
theorem zev.mono{Y:Tys}{F F':Heap}{k e:Nat}(hF:F.Le F'): ∀{xs:List (Y.T k×Y.T e×Nat)} {es:List MapEntry},zev Y F k e xs es->zev Y F' k e xs es
 |_,_,.nil=> .nil
 |_,_,.cons h r=> .cons (h.mono hF) (r.mono hF)
def zen(hY:zb8 Y)(F:Heap)(ρ:List Pl):Mem Y.T->Pl->Option Obj->Prop
 | .gone,_,_=>True
 | .cells ty l,p,o=>∃vs,zad Y F ρ l vs/\o=some (.cells vs.toArray ty (0,0))/\zzw (Y.bld ty) p vs
 | .mp k e x,p,o=>p.mp=true/\∃es:Array MapEntry,o=some (.map es x.clock)/\zev Y F k e x.es es.toList
 | .it s pos,p,o=>o=some (.stringIter ⟨⟨s⟩⟩ pos)
 | .arr e xs,p,o=>p.mp=false/\p.n=xs.length/\((p.A=none/\p.c=0/\xs=[]/\o=none)\/
     ∃cs,p.A=some ⟨p.blk,0,none⟩/\o=some (.cells cs e (0,0))/\xs.length<=p.c/\p.c<=maxLen/\cs.size=p.c*Y.sz e/\rowIs F (kR hY e) cs.toList xs)
theorem zGL{F:Heap}{ρ:List Pl}{p:Pl}{cs:List (AV Y.T)}{vs:List Value}(r:zad Y F ρ cs vs): ∀{l:List Nat},zEF l cs=true->zzw l p vs
 | [],_,b,hb=>by cases hb
 |c::l,h,b,hb=>by
   simp only[zEF,qz4]at h;rcases yP.1 hb with e|e
   · subst e;obtain⟨h1,_⟩:=h;split at h1
     ·rename_i hc;obtain⟨u,hu,hr⟩:=r.get hc;cases hr;exact .inl hu
     ·cases h1
   · exact zGL r h.2 b e
theorem zHc{off n:Nat}: ∀{l:List Nat},zCF off n l=true->∀b∈l,b<off\/off+n<=b
 | [],_,b,hb=>by cases hb
 |c::l,h,b,hb=>by
   simp only[zCF,qz4,yQ]at h;rcases yP.1 hb with e|e
   · subst e;exact h.1.imp (λh=>yD h) (λh=>yD h)
   · exact zHc h.2 b e
theorem zzw.stays{l:List Nat}{p:Pl}{vs us:List Value}{off n:Nat}(h:zzw l p vs)(ho:zCF off n l=true)(hl:us.length=n)(hle:off+n<=vs.length):zzw l p (vs.take off++(us++vs.drop (off+n))):=λb hb=>by
 have e:(vs.take off++(us++vs.drop (off+n)))[b]? =vs[b]? :=by
   rcases zHc ho b hb with h1|h1
   · rw[yF (by simp;omega),List.getElem?_take,yL h1]
   · rw[yG (by simp;omega),yG (by simp;omega),List.getElem?_drop]
     congr 1;simp;omega
 rw[e];exact h b hb
abbrev zbY(T:Nat->Type):=List (Nat×AV T)
def lookA{T:Nat->Type}:zbY T->Nat->Option (AV T)
 | [],_=>none
 | (k,s)::l,t=>bif Nat.beq k t then some s else lookA l t
structure Sy (T:Nat->Type) where
 l:zbY T
 m:List (Mem T)
def evA{T:Nat->Type}(l:zbY T):Operand->Option (AV T)
 | .tmp t=>lookA l t
 | .const v=>some (match v with| .agg cs=> .agg (cs.toList.map .v)|v=> .v v)
 | .func f=>some (.fn f [])
 | .global g=>some (.v (.pointer (some ⟨g,0,none⟩)))
class Dfr where
 ds:List Deferred
@[instance_reducible] instance (priority:=low) dfr0:Dfr:=⟨[]⟩
structure Ey [Dfr] (Y:Tys) (N:Nat) (F:Heap) (ρ:List Pl) (l:zbY Y.T) (a:Act):Prop where
 size:a.tmps.size=N
 nodef:a.defers=Dfr.ds
 env: ∀t x,lookA l t=some x->t<N/\Rel Y F ρ x (a.tmps.getD t undef)
def My(hY:zb8 Y)(F:Heap)(ρ:List Pl)(os:List (Option Obj))(m:List (Mem Y.T))(w:World):Prop:=
 ∀(k:Nat) (x:Mem Y.T),m[k]? =some x->(match x with| .gone=>True|_=>∃(p:Pl) (o:Option Obj),ρ[k]? =some p/\os[k]? =some o/\zen hY F ρ x p o/\∀ob,o=some ob->w.heap[p.blk]? =some ob)
structure Cy [Dfr] (hY:zb8 Y) (N:Nat) (w0:World) (F0:Heap) (D:Own) (H:List (Option Nat)) (w:World) (F:Heap) (ρ:List Pl) (os:List (Option Obj)) (s:Sy Y.T) (a:Act):Prop where
 e:Ey Y N F ρ s.l a
 len:s.m.length=ρ.length
 lon:os.length=ρ.length
 mem: ∀(k:Nat) (x:Mem Y.T) (p:Pl) (o:Option Obj),s.m[k]? =some x->ρ[k]? =some p->os[k]? =some o->zen hY F ρ x p o
 st:Gw.St w0 F0 D w F (pts ρ os)
 fix: ∀(k b:Nat),H[k]? =some (some b)->(∃p:Pl,ρ[k]? =some p/\p.blk=b)/\∀x,s.m[k]? =some x->x.still=true
 long:H.length<=ρ.length
end
variable [Dfr]
section defs
variable {T:Nat->Type}
mutual
def AV.plain:AV T->Option Value
 | .v x=>some x
 | .agg l=>match AV.zct l with|some cs=>some (.agg cs.toArray)|none=>none
 |_=>none
def AV.zct:List (AV T)->Option (List Value)
 | []=>some []
 |s::l=>match s.plain,AV.zct l with|some x,some r=>some (x::r)|_,_=>none
end
def AV.cells:AV T->Option (List (AV T))
 | .v (.agg cs)=>some (cs.toList.map .v)
 | .v (.tuple _)=>none
 | .v (.bool b)=>some [.v (.bool b)]
 | .v (.int k n)=>some [.v (.int k n)]
 | .v (.string s)=>some [.v (.string s)]
 | .v (.pointer a)=>some [.v (.pointer a)]
 | .v (.slice a n c)=>some [.v (.slice a n c)]
 | .v (.map r)=>some [.v (.map r)]
 | .v (.func f g h)=>some [.v (.func f g h)]
 | .v .nilFunc=>some [.v .nilFunc]
 | .v (.iface t x)=>some [.v (.iface t x)]
 | .v .nilIface=>some [.v .nilIface]
 | .v _=>none
 | .junk=>none
 | .tup _=>none
 | .agg l=>some l
 | .sl e xs=>some [.sl e xs]
 | .own k=>some [.own k]
 | .oel k s i off=>some [.oel k s i off]
 | .ptr k off=>some [.ptr k off]
 | .el l=>some [.el l]
 | .fn f l=>some [.fn f l]
 | .err e=>some [.err e]
def zuG(l:List (AV T))(off:Nat)(cs:List (AV T)):List (AV T):=l.take off++(cs++l.drop (off+cs.length))
def zOV(l:zbY T)(x:Operand):Value:=match evA l x with
 |some s=>match s.plain with|some y=>y|none=>undef
 |none=>undef
def zst(l:zbY T):List Operand->Bool
 | []=>true
 |x::r=>(match evA l x with|some s=>s.plain.isSome|none=>false)&&zst l r
def zy6(l:zbY T):List (Nat×Operand)->Option (List (Nat×AV T))
 | []=>some []
 | (i,x)::r=>match evA l x,zy6 l r with|some s,some ss=>some ((i,s)::ss)|_,_=>none
def zFc(place:Nat->Option (Nat×Nat))(cells:List (AV T)):List (Nat×AV T)->Option (List (AV T))
 | []=>some cells
 | (i,s)::r=>match place i,s.cells with
   |some (off,n),some cs=>bif (Nat.beq cs.length n&&Nat.ble (off+cs.length) cells.length)then zFc place (zuG cells off cs) r else none
   |_,_=>none
def zsk(P:Program)(t:TypeId)(cs:List (AV T)):Option (AV T):=match zgO P t,zcm P t with
 |some true,some n=>bif Nat.ble n cs.length then some (.agg (cs.take n))else none
 |some false,_=>cs[0]?
 |_,_=>none
def lenOf(m:List (Mem T)):AV T->Option Nat
 | .sl _ xs=>some xs.length
 | .own k=>match m[k]? with|some (.arr _ xs)=>some xs.length|_=>none
 |_=>none
def zKZ(P:Program)(t:TypeId):Option (Nat×TypeId):=match P.underlying t with|some (.array n e)=>some (n,e)|_=>none
def zoN(P:Program)(l:zbY T)(m:List (Mem T)):Op->Option (AV T)
 | .move x=>evA l x
 | .assign x=>evA l x
 | .pick c x y=>match evA l c with
   |some (.v (.bool true))=>evA l x
   |some (.v (.bool false))=>evA l y
   |_=>none
 | .extract x i=>match evA l x with
   |some (.tup ss)=>ss[i]?
   |_=>none
 | .nilCheck x=>match evA l x with
   |some (.ptr k o)=>some (.ptr k o)
   |some (.v (.pointer (some a)))=>some (.v (.pointer (some a)))
   |some (.el ss)=>some (.el ss)
   |some (.oel k s i o)=>some (.oel k s i o)
   |_=>none
 | .load t x=>match evA l x with
   |some (.el ss)=>zsk P t ss
   |some (.ptr k off)=>match m[k]? with
     |some (.cells _ cs)=>zsk P t (cs.drop off)
     |_=>none
   |_=>none
 | .fieldAddr t x f=>match evA l x,zk2 P t f with
   |some (.ptr k off),some (ft,fo)=>match zcm P ft with
     |some (_+1)=>some (.ptr k (off+fo))
     |_=>none
   |some (.oel k s i off),some (ft,fo)=>match zcm P ft with
     |some (_+1)=>some (.oel k s i (off+fo))
     |_=>none
   |some (.el ss),some (ft,fo)=>match zcm P ft with
     |some (_+1)=>some (.el (ss.drop fo))
     |_=>none
   |_,_=>none
 | .build t ps=>match P.info? t,zy6 l ps.toList with
   |some i,some ss=>match i.zero,zlA P t with
     |some z,true=>match zFc (zyc P t) (z.cells.toList.map .v) ss with|some cs=>some (.agg cs)|none=>none
     |some z,false=>match zKZ P t with
      |some (_,e)=>match zcm P e with
       |some n=>match zFc (λi=>some (i*n,n)) (z.cells.toList.map .v) ss with|some cs=>some (.agg cs)|none=>none
       |none=>none
      |none=>none
     |_,_=>none
   |_,_=>none
 | .field t x f=>match evA l x,zk2 P t f with
   |some (.agg cs),some (ft,fo)=>zsk P ft (cs.drop fo)
   |_,_=>none
 | .call c=>match c.callee,c.args.toList,c.argTypes.toList with
   | .builtin .len,[x],[t]=>match evA l x,zmQ P t with
     |some s,some _=>match lenOf m s with|some n=>some (.v (.int .i64 (n:Int)))|none=>none
     |_,_=>none
   |_,_,_=>none
 |_=>none
def zHO(l:zbY T):Op->Option Value
 | .binOp op _ x y _=>match op,evA l x,evA l y with
   | .eql,some (.v (.string s)),some (.v (.string t))=>some (.bool (s.data.toList==t.data.toList))
   | .neq,some (.v (.string s)),some (.v (.string t))=>some (.bool (!(s.data.toList==t.data.toList)))
   | .lss,some (.v (.string s)),some (.v (.string t))=>some (.bool (Op.bytesLess s.data.toList t.data.toList))
   | .gtr,some (.v (.string s)),some (.v (.string t))=>some (.bool (!(Op.bytesLess s.data.toList t.data.toList||s.data.toList==t.data.toList)))
   | .leq,some (.v (.string s)),some (.v (.string t))=>some (.bool (Op.bytesLess s.data.toList t.data.toList||s.data.toList==t.data.toList))
   | .geq,some (.v (.string s)),some (.v (.string t))=>some (.bool (!(Op.bytesLess s.data.toList t.data.toList)))
   |_,_,_=>none
 |_=>none
def zIr(P:Program)(xs ys:List (AV T)):List Field->Option Bool
 | []=>some true
 |f::r=>bif f.name== "_" then none else match zIr P xs ys r with
   |none=>none
   |some c=>match P.underlying f.type,xs[f.offset]?,ys[f.offset]? with
     |some .bool,some (.v (.bool x)),some (.v (.bool y))=>some ((x==y)&&c)
     |some (.int _),some (.v (.int k x)),some (.v (.int k' y))=>bif decide (k=k')then some ((x==y)&&c)else none
     |some .string,some (.v (.string x)),some (.v (.string y))=>some ((x.data.toList==y.data.toList)&&c)
     |_,_,_=>none
def zLy(P:Program)(l:zbY T):Op->Option Value
 | .binOp op t x y _=>match evA l x,evA l y,P.underlying t with
   |some (.agg xs),some (.agg ys),some (.struct fs)=>match zIr P xs ys fs.toList with
     |some b=>bif !P.stoodInHeld t&& !P.eqGuardType P.depth t then(match op with| .eql=>some (.bool b)| .neq=>some (.bool (!b))|_=>none)else none
     |none=>none
   |_,_,_=>none
 |_=>none
def zEy(P:Program)(t:TypeId):Bool:=match P.underlying t with|some (.interface ..)=>true|_=>false
def zOj(P:Program)(l:zbY T):Op->Option Value
 | .binOp op t x (.const .nilIface) _=>bif zEy P t then(match op,evA l x with
   | .eql,some (.err e)=>some (.bool e.isNil)
   | .neq,some (.err e)=>some (.bool (!e.isNil))
   |_,_=>none)else none
 |_=>none
def zPh(P:Program)(l:zbY T):Op->Bool
 | .unOp .. =>true
 | .convert s t _=>(match P.underlying t with|some (.int _)=>true|some .string=>(match P.underlying s with|some .string=>true|_=>false)|_=>false)
 | .binOp op _ x y _=>(match op with
   | .add=>(match evA l x with|some (.v (.string _))=>false|_=>true)
   | .quo=>(match y with| .const (.int _ n)=> !(decide (n=0))|_=>false)
   | .rem=>(match y with| .const (.int _ n)=> !(decide (n=0))|_=>false)
   | .shl=>(match y with| .const (.int _ n)=>decide (0<=n)|_=>false)
   | .shr=>(match y with| .const (.int _ n)=>decide (0<=n)|_=>false)
   |_=>true)
 | .call c=>(match c.callee with| .builtin .len=>true| .builtin .cap=>true| .builtin .min=>true| .builtin .max=>true|_=>false)
 |_=>false
def zy9(P:Program)(l:zbY T)(m:List (Mem T))(o:Oper):Option (AV T):=
 match zoN P l m o.op with
 |some s=>some s
 |none=>match zHO l o.op with
   |some x=>some (.v x)
   |none=>match zLy P l o.op with
     |some x=>some (.v x)
     |none=>match zOj P l o.op with
      |some x=>some (.v x)
      |none=>bif ((zst l o.op.operands.toList&& !zIa o.op)&&zPh P l o.op)then(match zqo P (execOp (zOV l) o)with|some x=>some (.v x)|none=>none)else none
end defs
section
variable {Y:Tys} {hY:zb8 Y} {P:Program} {N:Nat} {F:Heap} {ρ:List Pl} {os:List (Option Obj)} {l:zbY Y.T} {m:List (Mem Y.T)} {a:Act} {w:World} {o:Oper}
theorem zFt{P:Program}{t:TypeId}{n:Nat}{e:TypeId}(h:zKZ P t=some (n,e)):P.underlying t=some (.array n e):=by
 unfold zKZ at h;split at h
 · rename_i m f hu;cases h;exact hu
 · cases h
theorem Ey.eval(h:Ey Y N F ρ l a){x:Operand}{s:AV Y.T}(hx:evA l x=some s):Rel Y F ρ s (a.eval x):=by
 cases x with
 |tmp t=>exact(h.env t s hx).2
 |const v=>
   cases hx;cases v<;>first|exact .v|skip
   rename_i cs;have h:cs=cs.toList.toArray:=by simp
   show Rel Y F ρ (.agg (cs.toList.map .v)) (.agg cs);rw[h];exact .agg (zad.v (F:=F) (ρ:=ρ) _).1 (zad.v _).2
 |global g=>cases hx;exact .v
 |func f=>cases hx;exact .fn (vs:=[]) rfl (λ_ _ _ h=>by simp at h)
mutual
theorem AV.zB9: ∀{s:AV Y.T} {x u:Value},s.plain=some x->Rel Y F ρ s u->u=x
 | .v _,_,_,h,r=>by cases h;cases r;rfl
 | .agg l,x,u,h,r=>by
   simp only[AV.plain]at h;cases hl:AV.zct l with
   |none=>rw[hl]at h;cases h
   |some cs=>
     rw[hl]at h;cases h;cases r with
     |agg h1 h2=>rw[AV.zAn hl ⟨h1,h2⟩]
 | .junk,_,_,h,_=>by cases h
 | .sl ..,_,_,h,_=>by cases h
 | .own _,_,_,h,_=>by cases h
 | .oel ..,_,_,h,_=>by cases h
 | .ptr ..,_,_,h,_=>by cases h
 | .el _,_,_,h,_=>by cases h
 | .tup _,_,_,h,_=>by cases h
 | .fn ..,_,_,h,_=>by cases h
 | .err _,_,_,h,_=>by cases h
theorem AV.zAn: ∀{l:List (AV Y.T)} {cs us:List Value},AV.zct l=some cs->zad Y F ρ l us->us=cs
 | [],_,_,h,r=>by cases h;exact r.zg2
 |s::l,cs,us,h,r=>by
   simp only[AV.zct]at h;cases hs:s.plain with
   |none=>rw[hs]at h;cases h
   |some x=>
     cases hl:AV.zct l with
     |none=>rw[hs,hl]at h;cases h
     |some q=>
      rw[hs,hl]at h;cases h;obtain⟨u,r',rfl,h1,h2⟩:=r.inv;rw[AV.zB9 hs h1,AV.zAn hl h2]
end
theorem Rel.zcl{x u:Value}(h:Rel Y F ρ (.v x) u):u=x:=by cases h;rfl
theorem AV.ztl{s:AV Y.T}{l:List (AV Y.T)}{u:Value}(h:s.cells=some l)(r:Rel Y F ρ s u):zad Y F ρ l u.cells.toList:=by
 cases r with
 |v=>cases u<;>simp only[AV.cells]at h<;>(try cases h)<;>simp only[Value.cells]<;>first|exact zad.v _|exact zad.cons .v zad.nil
 |junk=>cases h
 |agg hl hr=>cases h;exact⟨hl,hr⟩
 |tup=>cases h
 | @err e q=>cases h;cases e<;>exact zad.cons .err zad.nil
 |sl b off vs hc hA hv hr=>cases h;exact zad.cons (.sl b off vs hc hA hv hr) zad.nil
 | @own _ pl hk=>
   cases h;have:pl.val.cells.toList=[pl.val]:=by unfold Pl.val;cases pl.mp<;>rfl
   rw[this];exact zad.cons (.own hk) zad.nil
 |oel hk=>cases h;exact zad.cons (.oel hk) zad.nil
 |ptr hk=>cases h;exact zad.cons (.ptr hk) zad.nil
 |el vs hl hc hr=>cases h;exact zad.cons (.el vs hl hc hr) zad.nil
 |fn hl hr=>cases h;exact zad.cons (.fn hl hr) zad.nil
theorem zAO{cs ds:List (AV Y.T)}{us vs:List Value}{off:Nat}(h:zad Y F ρ cs us)(r:zad Y F ρ ds vs):zad Y F ρ (zuG cs off ds) (us.take off++(vs++us.drop (off+ds.length))):=
 (h.take off).append (r.append (h.drop _))
theorem zww(h:Ey Y N F ρ l a): ∀{ps:List (Nat×Operand)} {ss:List (Nat×AV Y.T)},zy6 l ps=some ss->
   ∃us:List (Nat×Value),ps.map (λ(i,x)=>(i,a.eval x))=us/\us.map (·.1)=ss.map (·.1)/\zad Y F ρ (ss.map (·.2)) (us.map (·.2))
 | [],ss,e=>by cases e;exact⟨[],rfl,rfl,zad.nil⟩
 | (i,x)::r,ss,e=>by
   simp only[zy6]at e;cases hx:evA l x with
   |none=>rw[hx]at e;cases e
   |some s=>
     cases hr:zy6 l r with
     |none=>rw[hx,hr]at e;cases e
     |some ss'=>
      rw[hx,hr]at e;cases e;obtain⟨us,h1,h2,h3⟩:=zww h hr;exact⟨(i,a.eval x)::us,by simp only[List.map_cons,h1],by simp only[List.map_cons,h2],zad.cons (h.eval hx) h3⟩
theorem zEu{place:Nat->Option (Nat×Nat)}: ∀{ss:List (Nat×AV Y.T)} {us:List (Nat×Value)} {cells cs:List (AV Y.T)} {vs:List Value},zFc place cells ss=some cs->zad Y F ρ cells vs->
   us.map (·.1)=ss.map (·.1)->zad Y F ρ (ss.map (·.2)) (us.map (·.2))->∃vs',Instr.fill place vs.toArray us=some vs'.toArray/\zad Y F ρ cs vs'
 | [],us,cells,cs,vs,e,h,h1,_=>by
   cases e;have:us=[]:=by simpa using h1
   subst this;exact⟨vs,rfl,h⟩
 | (i,s)::r,us,cells,cs,vs,e,h,h1,h2=>by
   cases us with
   |nil=>simp at h1
   |cons u us=>
     obtain⟨i',u⟩:=u;simp only[List.map_cons,List.cons.injEq]at h1;obtain⟨rfl,h1⟩:=h1;obtain⟨u',r',e2,h3,h4⟩:=h2.inv;simp only[List.map_cons,List.cons.injEq]at e2;obtain⟨rfl,rfl⟩:=e2;simp only[zFc]at e;cases hpl:place i' with
     |none=>rw[hpl]at e;cases e
     |some on=>
      obtain⟨off,mm⟩:=on;cases hc:s.cells with
      |none=>rw[hpl,hc]at e;cases e
      |some sc=>
       rw[hpl,hc]at e;simp only at e;cases hb:(Nat.beq sc.length mm&&Nat.ble (off+sc.length) cells.length)with
       |false=>rw[hb]at e;cases e
       |true=>
        rw[hb]at e;simp only[cond_true]at e;simp only[qz4]at hb;have b1:=yC hb.1;have b2:=yD hb.2;have hden:=AV.ztl hc h3;have hsz:u.cells.size=sc.length:=by rw[<-Array.length_toList];exact hden.1
        obtain⟨vs',q1,q2⟩:=zEu e (zAO (off:=off) h hden) h1 h4;refine⟨vs',?_,q2⟩;simp only[Instr.fill,hpl];have hlen:=h.1
        have hno: ¬(u.cells.size≠mm||decide (off+u.cells.size>vs.toArray.size))=true:=by
         simp[hsz,b1];omega
        rw[yK hno]
        have hf:u.cells.zipIdx.foldl (λcs (x:Value×Nat)=>cs.setIfInBounds (off+x.2) x.1) vs.toArray=(vs.take off++(u.cells.toList++vs.drop (off+sc.length))).toArray:=by
         rw[<-Array.foldl_toList,Array.toList_zipIdx,foldl_set _ _ _ _ (by simp[hsz];omega)]
         simp[hsz]
        rw[hf];exact q1
theorem zsF{t:TypeId}{cs:List (AV Y.T)}{s:AV Y.T}{us:List Value}(h:zsk P t cs=some s)(r:zad Y F ρ cs us):
   ∃u,Rel Y F ρ s u/\(∀(w:World) (b off:Nat),(∀j x,us[j]? =some x->w.cell? ⟨b,off+j,none⟩=some x)->(Instr.loadAt t (.pointer (some ⟨b,off,none⟩))).run P w= .ok u w)/\
     ∀(w:World) (vs:List Value) (q:Nat),vs.drop q=us->(part t vs.toArray q).run P w= .ok u w:=by
 unfold zsk at h;cases hr:zgO P t with
 |none=>rw[hr]at h;cases hs:zcm P t<;>rw[hs]at h<;>cases h
 |some row=>
   rw[hr]at h;cases row with
   |true=>
     cases hs:zcm P t with
     |none=>rw[hs]at h;cases h
     |some n=>
      rw[hs]at h;simp only at h;obtain⟨hle,he⟩:=zcV h;cases he;have hle:=yD hle;refine⟨.agg (us.take n).toArray,.agg (r.take n).1 (r.take n).2,λw b off hcell=>?_,λw vs q hq=>?_⟩
      ·have hl:=run_loadCells_list (P:=P) w ⟨b,off,none⟩ (us.take n) (λj v hv=>by
        rw[zgN];rw[List.getElem?_take]at hv;split at hv
        ·exact hcell j v hv
        ·cases hv)
       have hn:(us.take n).length=n:=by simp[r.1];omega
       rw[hn]at hl;simp[Instr.loadAt,Instr.sureAddr,loadVar,Sem.run_bind,zfZ hr,zco hs,hl]
      ·simp[part,Sem.run_bind,zfZ hr,zco hs,List.extract_eq_take_drop,hq]
   |false=>
     cases hs:cs[0]? with
     |none=>rw[hs]at h;cases hs2:zcm P t<;>rw[hs2]at h<;>cases h
     |some s'=>
      have e:some s'=some s:=by cases hs2:zcm P t<;>rw[hs2,hs]at h<;>exact h
      have e':=yS e;subst e';obtain⟨u,hu,hrel⟩:=r.get hs;refine⟨u,hrel,λw b off hcell=>?_,λw vs q hq=>?_⟩
      ·have h0:w.cell? ⟨b,off,none⟩=some u:=hcell 0 u hu;simp[Instr.loadAt,Instr.sureAddr,loadVar,Sem.run_bind,zfZ hr,h0]
      ·have h0:vs[q]? =some u:=by
        have:(vs.drop q)[0]? =some u:=by rw[hq];exact hu
        rw[List.getElem?_drop]at this;simpa using this
       simp[part,Sem.run_bind,zfZ hr,h0]
theorem cell_of_heap{w:World}{b:Nat}{vs:List Value}{ty:TypeId}(h:w.heap[b]? =some (.cells vs.toArray ty (0,0))){j:Nat}{x:Value}(hx:vs[j]? =some x):w.cell? ⟨b,j,none⟩=some x:=by
 unfold World.cell?;rw[h];simp[hx]
theorem ztS{t:TypeId}{f:Nat}{ft:TypeId}{fo:Nat}(h:zk2 P t f=some (ft,fo)): ∃fs d,P.underlying t=some (.struct fs)/\fs[f]? =some d/\d.type=ft/\d.offset=fo:=by
 unfold zk2 at h;cases hu:P.underlying t with
 |none=>rw[hu]at h;cases h
 |some d=>
   rw[hu]at h;cases d with
   |struct fs=>
     simp only at h;cases hf:fs[f]? with
     |none=>rw[hf]at h;cases h
     |some fd=>rw[hf]at h;cases h;exact⟨fs,fd,rfl,hf,rfl,rfl⟩
   |_=>cases h
def Yld(hY:zb8 Y)(P:Program)(F:Heap)(ρ:List Pl)(os:List (Option Obj))(m:List (Mem Y.T))(a:Act)(o:Oper)(s:AV Y.T):Prop:=
 ∃u,Rel Y F ρ s u/\∀w,F.Sub w->My hY F ρ os m w->(execOp a.eval o).run P w= .ok (.value u) w
theorem zKg{s:AV Y.T}(h:Ey Y N F ρ l a)(hM:My hY F ρ os m w)(e:zoN P l m o.op=some s):Yld hY P F ρ os m a o s:=by
 have fwd: ∀{x:Operand} {s:AV Y.T},evA l x=some s->execOp a.eval o=Sem.pure (.value (a.eval x))->Yld hY P F ρ os m a o s:=
   λ{x s} hx hop=>⟨a.eval x,h.eval hx,λw _ _=>by rw[hop];rfl⟩
 cases hop:o.op with
 |move x=>rw[hop]at e;simp only[zoN]at e;exact fwd e (by unfold execOp;rw[hop];rfl)
 |assign x=>rw[hop]at e;simp only[zoN]at e;exact fwd e (by unfold execOp;rw[hop];rfl)
 |pick c x y=>
   rw[hop]at e;simp only[zoN]at e;split at e
   · rename_i hc;have hcv:a.eval c= .bool true:=(h.eval hc).zcl;exact fwd e (by unfold execOp;rw[hop];simp only[hcv];rfl)
   · rename_i hc;have hcv:a.eval c= .bool false:=(h.eval hc).zcl;exact fwd e (by unfold execOp;rw[hop];simp only[hcv];rfl)
   · cases e
 |extract x i=>
   rw[hop]at e;simp only[zoN]at e;split at e
   · rename_i ss hx;have hr:=h.eval hx;generalize hev:a.eval x=ux at hr;cases hr with
     | @tup _ vs hl hv=>
      obtain⟨u,hu,hrel⟩:=zad.get ⟨hl,hv⟩ e;refine⟨u,hrel,λw _ _=>?_⟩;unfold execOp;rw[hop];simp[hev,Instr.extract,hu]
   · cases e
 |nilCheck x=>
   rw[hop]at e;simp only[zoN]at e
   have go: ∀{b off:Nat} {ep:Option (Nat×Nat)},a.eval x= .pointer (some ⟨b,off,none⟩)->evA l x=some s->Yld hY P F ρ os m a o s:=λ{b off ep} hev hx=>
     ⟨_,by have:=h.eval hx;rw[hev]at this;exact this,λw _ _=>by unfold execOp;rw[hop];simp only[hev];rfl⟩
   split at e
   · rename_i k off hx;have hr:=h.eval hx;generalize hev:a.eval x=ux at hr;cases hr with
     |ptr hk=>cases e;exact⟨_,.ptr hk,λw _ _=>by unfold execOp;rw[hop];simp only[hev];rfl⟩
   · rename_i ad hx;have hr:=h.eval hx;generalize hev:a.eval x=ux at hr;cases hr;cases e;exact⟨_,.v,λw _ _=>by unfold execOp;rw[hop];simp only[hev];rfl⟩
   · rename_i ss hx;have hr:=h.eval hx;generalize hev:a.eval x=ux at hr;cases hr with
     |el vs hl hc hv=>cases e;exact⟨_,.el vs hl hc hv,λw _ _=>by unfold execOp;rw[hop];simp only[hev];rfl⟩
   · rename_i k z i off hx;have hr:=h.eval hx;generalize hev:a.eval x=ux at hr;cases hr with
     |oel hk=>cases e;exact⟨_,.oel hk,λw _ _=>by unfold execOp;rw[hop];simp only[hev];rfl⟩
   · cases e
 |load t x=>
   rw[hop]at e;simp only[zoN]at e;split at e
   · rename_i ss hx;have hr:=h.eval hx;generalize hev:a.eval x=ux at hr;cases hr with
     |el vs hl hc hv=>
      obtain⟨u,hrel,hrun,_⟩:=zsF e ⟨hl,hv⟩;refine⟨u,hrel,λw hv _=>?_⟩;unfold execOp;rw[hop];simp only[hev,Sem.run_bind,hrun w _ _ (λj x hx=>ziV hv (hc j x hx)),Result.andThen_ok,Sem.run_pure]
   · rename_i k off hx;split at e
     ·rename_i ty cs hk;have hr:=h.eval hx;generalize hev:a.eval x=ux at hr;cases hr with
      | @ptr _ _ pl hpl=>
       obtain⟨p,o',hp,ho',⟨vs,hrs,ho,_⟩,hw⟩:=hM k _ hk;rw[hpl]at hp;cases hp;obtain⟨u,hrel,hrun,_⟩:=zsF e (hrs.drop off);refine⟨u,hrel,λw' _ hM'=>?_⟩;obtain⟨p',o2,hp',ho2,_,hw'⟩:=hM' k _ hk;rw[hpl]at hp';cases hp';rw[ho']at ho2;cases ho2;unfold execOp;rw[hop];simp only[hev,Sem.run_bind,hrun w' _ _ (λj x hx=>by rw[List.getElem?_drop]at hx;exact cell_of_heap (hw' _ ho) hx),Result.andThen_ok,Sem.run_pure]
     ·cases e
   · cases e
 |fieldAddr t x f=>
   rw[hop]at e;simp only[zoN]at e;split at e
   · rename_i k off ft fo hx hf;split at e
     ·rename_i n hs;cases e;obtain⟨fs,d,hu,hd,rfl,rfl⟩:=ztS hf;have hr:=h.eval hx;generalize hev:a.eval x=ux at hr;cases hr with
      |ptr hk=>
       refine⟨_,.ptr hk,λw _ _=>?_⟩;unfold execOp;rw[hop];simp[hev,Instr.fieldAt,Instr.sureAddr,fieldPlace,Sem.run_bind,run_underlying hu,hd,zco hs,zgN]
     ·cases e
   · rename_i k z i off ft fo hx hf;split at e
     ·rename_i n hs;cases e;obtain⟨fs,d,hu,hd,rfl,rfl⟩:=ztS hf;have hr:=h.eval hx;generalize hev:a.eval x=ux at hr;cases hr with
      |oel hk=>
       refine⟨_,.oel hk,λw _ _=>?_⟩;unfold execOp;rw[hop];simp[hev,Instr.fieldAt,Instr.sureAddr,fieldPlace,Sem.run_bind,run_underlying hu,hd,zco hs,zgN,Nat.add_assoc]
     ·cases e
   · rename_i ss ft fo hx hf;split at e
     ·rename_i n hs;cases e;obtain⟨fs,d,hu,hd,rfl,rfl⟩:=ztS hf;have hr:=h.eval hx;generalize hev:a.eval x=ux at hr;cases hr with
      | @el _ b off vs hl hc hv=>
       have hdr:=zad.drop (⟨hl,hv⟩:zad Y F ρ ss vs) d.offset;refine⟨_,.el (b:=b) (off:=off+d.offset) (vs.drop d.offset) hdr.1 (λj v hj=>?_) hdr.2,λw _ _=>?_⟩
       ·rw[List.getElem?_drop]at hj;have:=hc _ _ hj;rwa [<-Nat.add_assoc]at this
       ·unfold execOp;rw[hop];simp[hev,Instr.fieldAt,Instr.sureAddr,fieldPlace,Sem.run_bind,run_underlying hu,hd,zco hs,zgN]
     ·cases e
   · cases e
 |build t ps=>
   rw[hop]at e;simp only[zoN]at e;split at e
   · rename_i i ss hi hps;split at e
     ·rename_i z hz hst;split at e
      ·rename_i cs hfl;cases e;obtain⟨us,p1,p2,p3⟩:=zww h hps;obtain⟨vs',q1,q2⟩:=zEu hfl (zad.v z.cells.toList) p2 p3;refine⟨.agg vs'.toArray,.agg q2.1 q2.2,λw _ _=>?_⟩;unfold execOp;rw[hop];have hst':=hst;unfold zlA at hst';cases hu:P.underlying t with
       |none=>rw[hu]at hst';cases hst'
       |some dd=>
        rw[hu]at hst';cases dd with
        |struct fs=>
         have hpm:(ps.map λ(i,x)=>(i,a.eval x)).toList=us:=by rw[Array.toList_map];exact p1
         obtain⟨places,hpl,hpe⟩:=zEC (P:=P) hu hst w;rw[<-hpe]at q1;have hz2:z.cells.toList.toArray=z.cells:=by simp
         rw[hz2]at q1;simp only[Instr.build,Sem.run_bind,zfU hi hz,Result.andThen_ok,run_underlying hu,hpl,hpm];rw[q1];rfl
        |_=>cases hst'
      ·cases e
     ·rename_i z hz hst;split at e
      ·rename_i len ee har;split at e
       ·rename_i n hn;split at e
        ·rename_i cs hfl;cases e;obtain⟨us,p1,p2,p3⟩:=zww h hps;obtain⟨vs',q1,q2⟩:=zEu hfl (zad.v z.cells.toList) p2 p3;refine⟨.agg vs'.toArray,.agg q2.1 q2.2,λw _ _=>?_⟩;unfold execOp;rw[hop];have hu:=zFt har;have hpm:(ps.map λ(i,x)=>(i,a.eval x)).toList=us:=by rw[Array.toList_map];exact p1
         have hz2:z.cells.toList.toArray=z.cells:=by simp
         rw[hz2]at q1;simp only[Instr.build,Sem.run_bind,zfU hi hz,Result.andThen_ok,run_underlying hu,zco hn,hpm];rw[q1];rfl
        ·cases e
       ·cases e
      ·cases e
     ·cases e
   · cases e
 |field t x f=>
   rw[hop]at e;simp only[zoN]at e;split at e
   · rename_i cs ft fo hx hf;obtain⟨fs,d,hu,hd,rfl,rfl⟩:=ztS hf;have hr:=h.eval hx;generalize hev:a.eval x=ux at hr;cases hr with
     | @agg _ vs hl hv=>
      obtain⟨u,hrel,_,hrun⟩:=zsF e (zad.drop (⟨hl,hv⟩:zad Y F ρ cs vs) d.offset);refine⟨u,hrel,λw _ _=>?_⟩;unfold execOp;rw[hop];simp only[hev,Instr.field,asAgg,Sem.run_bind,run_underlying hu,hd,Result.andThen_ok,Sem.run_pure,hrun w vs _ rfl]
   · cases e
 |call c=>
   rw[hop]at e;simp only[zoN]at e;split at e
   · rename_i x t hcal hargs hts;split at e
     ·rename_i sx et hx het;split at e
      ·rename_i n hn;cases e;refine⟨_,.v,λw _ hM'=>?_⟩;have hr:=h.eval hx;generalize hev:a.eval x=ux at hr
       have hlen: ∃A c,ux= .slice A n c:=by
        cases hr with
        |sl b off vs hc hA hv hh=>cases hn;exact⟨_,_,rfl⟩
        | @own k pl hk=>
         simp only[lenOf]at hn;split at hn
         ·rename_i e xs hm;cases hn;obtain⟨p,_,hp,_,hmr,_⟩:=hM k _ hm;rw[hk]at hp;cases hp;exact⟨_,_,by rw[Pl.zsS hmr.1,hmr.2.1]⟩
         ·cases hn
        |_=>cases hn
       obtain⟨A,c',rfl⟩:=hlen
       have hargs':c.args.map a.eval= #[.slice A n c']:=by
        rw[<-Array.toList_inj,Array.toList_map,hargs];simp[hev]
       have hts':c.argTypes= #[t]:=by rw[<-Array.toList_inj,hts]
       unfold execOp;rw[hop];simp only[hcal,hargs',hts',resolve,invoke,Deferred.ofValue];show((do pure (Next.value (<-Builtin.len_ #[t] o.type #[.slice A n c'])):Sem Next)).run P w=_;simp[Builtin.len_,run_underlying (zdA het),goInt]
      ·cases e
     ·cases e
   · cases e
 |_=>rw[hop]at e;simp only[zoN]at e;cases e
end
end Go.Dn
