/- Operations that leave all as it is: what they yield. For any program. -/
import Derived.Test.YtglnkknalibgdaaDoorDnA
set_option linter.unusedVariables false
set_option linter.unusedSimpArgs false
set_option linter.unnecessarySimpa false
namespace Go.Dn
open Go.Gw Go.RowKit
set_option linter.unusedSectionVars false
variable [Dfr]
set_option linter.unusedSimpArgs false

section defs
variable {T : Nat → Type}
mutual
def AV.plain : AV T → Option Value
  | .v x => some x
  | .agg l => match AV.plains l with | some cs => some (.agg cs.toArray) | none => none
  | _ => none
def AV.plains : List (AV T) → Option (List Value)
  | [] => some []
  | s :: l => match s.plain, AV.plains l with | some x, some r => some (x :: r) | _, _ => none
end
/-- the cells that a value takes -/
def AV.cells : AV T → Option (List (AV T))
  | .v (.agg cs) => some (cs.toList.map .v)
  | .v (.tuple _) => none
  | .v (.bool b) => some [.v (.bool b)]
  | .v (.int k n) => some [.v (.int k n)]
  | .v (.string s) => some [.v (.string s)]
  | .v (.pointer a) => some [.v (.pointer a)]
  | .v (.slice a n c) => some [.v (.slice a n c)]
  | .v (.map r) => some [.v (.map r)]
  | .v (.func f g h) => some [.v (.func f g h)]
  | .v .nilFunc => some [.v .nilFunc]
  | .v (.iface t x) => some [.v (.iface t x)]
  | .v .nilIface => some [.v .nilIface]
  | .v _ => none
  | .junk => none
  | .tup _ => none
  | .agg l => some l
  | .sl e xs => some [.sl e xs]
  | .own k => some [.own k]
  | .oel k s i off => some [.oel k s i off]
  | .ptr k off => some [.ptr k off]
  | .el l => some [.el l]
  | .fn f l => some [.fn f l]
  | .err e => some [.err e]
def setAtA (l : List (AV T)) (off : Nat) (cs : List (AV T)) : List (AV T) := l.take off ++ (cs ++ l.drop (off + cs.length))
def ρofA (l : AEnv T) (x : Operand) : Value := match evA l x with
  | some s => match s.plain with | some y => y | none => undef
  | none => undef
def allPlainA (l : AEnv T) : List Operand → Bool
  | [] => true
  | x :: r => (match evA l x with | some s => s.plain.isSome | none => false) && allPlainA l r
def partsA (l : AEnv T) : List (Nat × Operand) → Option (List (Nat × AV T))
  | [] => some []
  | (i, x) :: r => match evA l x, partsA l r with | some s, some ss => some ((i, s) :: ss) | _, _ => none
/-- a struct's cells, some of its fields written out -/
def fillA (place : Nat → Option (Nat × Nat)) (cells : List (AV T)) : List (Nat × AV T) → Option (List (AV T))
  | [] => some cells
  | (i, s) :: r => match place i, s.cells with
    | some (off, n), some cs => bif (Nat.beq cs.length n && Nat.ble (off + cs.length) cells.length) then fillA place (setAtA cells off cs) r else none
    | _, _ => none
/-- what lies at the beginning of some cells -/
def firstA (P : Program) (t : TypeId) (cs : List (AV T)) : Option (AV T) := match isRowB P t, sizeB P t with
  | some true, some n => bif Nat.ble n cs.length then some (.agg (cs.take n)) else none
  | some false, _ => cs[0]?
  | _, _ => none
def lenOf (m : List (Mem T)) : AV T → Option Nat
  | .sl _ xs => some xs.length
  | .own k => match m[k]? with | some (.arr _ xs) => some xs.length | _ => none
  | _ => none

def ownA (P : Program) (l : AEnv T) (m : List (Mem T)) : Op → Option (AV T)
  | .move x => evA l x
  | .assign x => evA l x
  | .pick c x y => match evA l c with
    | some (.v (.bool true)) => evA l x
    | some (.v (.bool false)) => evA l y
    | _ => none
  | .extract x i => match evA l x with
    | some (.tup ss) => ss[i]?
    | _ => none
  | .nilCheck x => match evA l x with
    | some (.ptr k o) => some (.ptr k o)
    | some (.v (.pointer (some a))) => some (.v (.pointer (some a)))
    | some (.el ss) => some (.el ss)
    | some (.oel k s i o) => some (.oel k s i o)
    | _ => none
  | .load t x => match evA l x with
    | some (.el ss) => firstA P t ss
    | some (.ptr k off) => match m[k]? with
      | some (.cells _ cs) => firstA P t (cs.drop off)
      | _ => none
    | _ => none
  | .fieldAddr t x f => match evA l x, fieldB P t f with
    | some (.ptr k off), some (ft, fo) => match sizeB P ft with
      | some (_ + 1) => some (.ptr k (off + fo))
      | _ => none
    | some (.oel k s i off), some (ft, fo) => match sizeB P ft with
      | some (_ + 1) => some (.oel k s i (off + fo))
      | _ => none
    | some (.el ss), some (ft, fo) => match sizeB P ft with
      | some (_ + 1) => some (.el (ss.drop fo))
      | _ => none
    | _, _ => none
  | .build t ps => match P.info? t, partsA l ps.toList with
    | some i, some ss => match i.zero, isStructB P t with
      | some z, true => match fillA (placesB P t) (z.cells.toList.map .v) ss with | some cs => some (.agg cs) | none => none
      | _, _ => none
    | _, _ => none
  | .field t x f => match evA l x, fieldB P t f with
    | some (.agg cs), some (ft, fo) => firstA P ft (cs.drop fo)
    | _, _ => none
  | .call c => match c.callee, c.args.toList, c.argTypes.toList with
    | .builtin .len, [x], [t] => match evA l x, elemB P t with
      | some s, some _ => match lenOf m s with | some n => some (.v (.int .i64 (n : Int))) | none => none
      | _, _ => none
    | _, _, _ => none
  | _ => none

/-- strings held against one another -/
def strsA (l : AEnv T) : Op → Option Value
  | .binOp op _ x y _ => match op, evA l x, evA l y with
    | .eql, some (.v (.string s)), some (.v (.string t)) => some (.bool (s.data.toList == t.data.toList))
    | .neq, some (.v (.string s)), some (.v (.string t)) => some (.bool (!(s.data.toList == t.data.toList)))
    | .lss, some (.v (.string s)), some (.v (.string t)) => some (.bool (Op.bytesLess s.data.toList t.data.toList))
    | .gtr, some (.v (.string s)), some (.v (.string t)) => some (.bool (!(Op.bytesLess s.data.toList t.data.toList || s.data.toList == t.data.toList)))
    | .leq, some (.v (.string s)), some (.v (.string t)) => some (.bool (Op.bytesLess s.data.toList t.data.toList || s.data.toList == t.data.toList))
    | .geq, some (.v (.string s)), some (.v (.string t)) => some (.bool (!(Op.bytesLess s.data.toList t.data.toList)))
    | _, _, _ => none
  | _ => none

/-- flat structs held against one another -/
def eqFA (P : Program) (xs ys : List (AV T)) : List Field → Option Bool
  | [] => some true
  | f :: r => bif f.name == "_" then none else match eqFA P xs ys r with
    | none => none
    | some c => match P.underlying f.type, xs[f.offset]?, ys[f.offset]? with
      | some .bool, some (.v (.bool x)), some (.v (.bool y)) => some ((x == y) && c)
      | some (.int _), some (.v (.int k x)), some (.v (.int k' y)) => bif decide (k = k') then some ((x == y) && c) else none
      | some .string, some (.v (.string x)), some (.v (.string y)) => some ((x.data.toList == y.data.toList) && c)
      | _, _, _ => none
def eqSA (P : Program) (l : AEnv T) : Op → Option Value
  | .binOp op t x y _ => match evA l x, evA l y, P.underlying t with
    | some (.agg xs), some (.agg ys), some (.struct fs) => match eqFA P xs ys fs.toList with
      | some b => bif !P.stoodInHeld t && !P.eqGuardType P.depth t then (match op with | .eql => some (.bool b) | .neq => some (.bool (!b)) | _ => none) else none
      | none => none
    | _, _, _ => none
  | _ => none
/-- errors held against nil -/
def isIfaceB (P : Program) (t : TypeId) : Bool := match P.underlying t with | some (.interface ..) => true | _ => false
def errA (P : Program) (l : AEnv T) : Op → Option Value
  | .binOp op t x (.const .nilIface) _ => bif isIfaceB P t then (match op, evA l x with
    | .eql, some (.err e) => some (.bool e.isNil)
    | .neq, some (.err e) => some (.bool (!e.isNil))
    | _, _ => none) else none
  | _ => none

/-- operations whose values are reckoned outright -/
def pureK (P : Program) (l : AEnv T) : Op → Bool
  | .unOp .. => true
  | .convert s t _ => (match P.underlying t with | some (.int _) => true | some .string => (match P.underlying s with | some .string => true | _ => false) | _ => false)
  | .binOp op _ x y _ => (match op with
    | .add => (match evA l x with | some (.v (.string _)) => false | _ => true)
    | .quo => (match y with | .const (.int _ n) => !(decide (n = 0)) | _ => false)
    | .rem => (match y with | .const (.int _ n) => !(decide (n = 0)) | _ => false)
    | .shl => (match y with | .const (.int _ n) => decide (0 ≤ n) | _ => false)
    | .shr => (match y with | .const (.int _ n) => decide (0 ≤ n) | _ => false)
    | _ => true)
  | .call c => (match c.callee with | .builtin .len => true | .builtin .cap => true | .builtin .min => true | .builtin .max => true | _ => false)
  | _ => false
/-- a quiet operation -/
def quietA (P : Program) (l : AEnv T) (m : List (Mem T)) (o : Oper) : Option (AV T) :=
  match ownA P l m o.op with
  | some s => some s
  | none => match strsA l o.op with
    | some x => some (.v x)
    | none => match eqSA P l o.op with
      | some x => some (.v x)
      | none => match errA P l o.op with
        | some x => some (.v x)
        | none => bif ((allPlainA l o.op.operands.toList && !selB o.op) && pureK P l o.op) then (match pureOf P (execOp (ρofA l) o) with | some x => some (.v x) | none => none) else none
end defs

section
variable {Y : Tys} {hY : TysOk Y} {P : Program} {N : Nat} {F : Heap} {ρ : List Pl} {os : List (Option Obj)} {l : AEnv Y.T} {m : List (Mem Y.T)} {a : Act} {w : World} {o : Oper}

theorem Ey.eval (h : Ey Y N F ρ l a) {x : Operand} {s : AV Y.T} (hx : evA l x = some s) : Rel Y F ρ s (a.eval x) := by
  cases x with
  | tmp t => exact (h.env t s hx).2
  | const v =>
    cases hx
    cases v <;> first | exact .v | skip
    rename_i cs
    have h : cs = cs.toList.toArray := by simp
    show Rel Y F ρ (.agg (cs.toList.map .v)) (.agg cs)
    rw [h]; exact .agg (Rels.v (F := F) (ρ := ρ) _).1 (Rels.v _).2
  | global g => cases hx; exact .v
  | func f => cases hx; exact .fn (vs := []) rfl (fun _ _ _ h => by simp at h)

mutual
theorem AV.plain_rel : ∀ {s : AV Y.T} {x u : Value}, s.plain = some x → Rel Y F ρ s u → u = x
  | .v _, _, _, h, r => by cases h; cases r; rfl
  | .agg l, x, u, h, r => by
    simp only [AV.plain] at h
    cases hl : AV.plains l with
    | none => rw [hl] at h; cases h
    | some cs =>
      rw [hl] at h; cases h
      cases r with
      | agg h1 h2 => rw [AV.plains_rel hl ⟨h1, h2⟩]
  | .junk, _, _, h, _ => by cases h
  | .sl .., _, _, h, _ => by cases h
  | .own _, _, _, h, _ => by cases h
  | .oel .., _, _, h, _ => by cases h
  | .ptr .., _, _, h, _ => by cases h
  | .el _, _, _, h, _ => by cases h
  | .tup _, _, _, h, _ => by cases h
  | .fn .., _, _, h, _ => by cases h
  | .err _, _, _, h, _ => by cases h
theorem AV.plains_rel : ∀ {l : List (AV Y.T)} {cs us : List Value}, AV.plains l = some cs → Rels Y F ρ l us → us = cs
  | [], _, _, h, r => by cases h; exact r.nil_inv
  | s :: l, cs, us, h, r => by
    simp only [AV.plains] at h
    cases hs : s.plain with
    | none => rw [hs] at h; cases h
    | some x =>
      cases hl : AV.plains l with
      | none => rw [hs, hl] at h; cases h
      | some q =>
        rw [hs, hl] at h; cases h
        obtain ⟨u, r', rfl, h1, h2⟩ := r.inv
        rw [AV.plain_rel hs h1, AV.plains_rel hl h2]
end
theorem Rel.v_inv {x u : Value} (h : Rel Y F ρ (.v x) u) : u = x := by cases h; rfl
theorem AV.cells_rel {s : AV Y.T} {l : List (AV Y.T)} {u : Value} (h : s.cells = some l) (r : Rel Y F ρ s u) : Rels Y F ρ l u.cells.toList := by
  cases r with
  | v => cases u <;> simp only [AV.cells] at h <;> (try cases h) <;> simp only [Value.cells] <;> first | exact Rels.v _ | exact Rels.cons .v Rels.nil
  | junk => cases h
  | agg hl hr => cases h; exact ⟨hl, hr⟩
  | tup => cases h
  | @err e q => cases h; cases e <;> exact Rels.cons .err Rels.nil
  | sl b off vs hc hA hv hr => cases h; exact Rels.cons (.sl b off vs hc hA hv hr) Rels.nil
  | @own _ pl hk =>
    cases h
    have : pl.val.cells.toList = [pl.val] := by unfold Pl.val; cases pl.mp <;> rfl
    rw [this]; exact Rels.cons (.own hk) Rels.nil
  | oel hk => cases h; exact Rels.cons (.oel hk) Rels.nil
  | ptr hk => cases h; exact Rels.cons (.ptr hk) Rels.nil
  | el vs hl hc hr => cases h; exact Rels.cons (.el vs hl hc hr) Rels.nil
  | fn hl hr => cases h; exact Rels.cons (.fn hl hr) Rels.nil

theorem setAtA_rel {cs ds : List (AV Y.T)} {us vs : List Value} {off : Nat} (h : Rels Y F ρ cs us) (r : Rels Y F ρ ds vs) : Rels Y F ρ (setAtA cs off ds) (us.take off ++ (vs ++ us.drop (off + ds.length))) :=
  (h.take off).append (r.append (h.drop _))

theorem partsA_ok (h : Ey Y N F ρ l a) : ∀ {ps : List (Nat × Operand)} {ss : List (Nat × AV Y.T)}, partsA l ps = some ss →
    ∃ us : List (Nat × Value), ps.map (fun (i, x) => (i, a.eval x)) = us ∧ us.map (·.1) = ss.map (·.1) ∧ Rels Y F ρ (ss.map (·.2)) (us.map (·.2))
  | [], ss, e => by cases e; exact ⟨[], rfl, rfl, Rels.nil⟩
  | (i, x) :: r, ss, e => by
    simp only [partsA] at e
    cases hx : evA l x with
    | none => rw [hx] at e; cases e
    | some s =>
      cases hr : partsA l r with
      | none => rw [hx, hr] at e; cases e
      | some ss' =>
        rw [hx, hr] at e; cases e
        obtain ⟨us, h1, h2, h3⟩ := partsA_ok h hr
        exact ⟨(i, a.eval x) :: us, by simp only [List.map_cons, h1], by simp only [List.map_cons, h2], Rels.cons (h.eval hx) h3⟩

theorem fillA_ok {place : Nat → Option (Nat × Nat)} : ∀ {ss : List (Nat × AV Y.T)} {us : List (Nat × Value)} {cells cs : List (AV Y.T)} {vs : List Value}, fillA place cells ss = some cs → Rels Y F ρ cells vs →
    us.map (·.1) = ss.map (·.1) → Rels Y F ρ (ss.map (·.2)) (us.map (·.2)) → ∃ vs', Instr.fill place vs.toArray us = some vs'.toArray ∧ Rels Y F ρ cs vs'
  | [], us, cells, cs, vs, e, h, h1, _ => by
    cases e
    have : us = [] := by simpa using h1
    subst this
    exact ⟨vs, rfl, h⟩
  | (i, s) :: r, us, cells, cs, vs, e, h, h1, h2 => by
    cases us with
    | nil => simp at h1
    | cons u us =>
      obtain ⟨i', u⟩ := u
      simp only [List.map_cons, List.cons.injEq] at h1
      obtain ⟨rfl, h1⟩ := h1
      obtain ⟨u', r', e2, h3, h4⟩ := h2.inv
      simp only [List.map_cons, List.cons.injEq] at e2
      obtain ⟨rfl, rfl⟩ := e2
      simp only [fillA] at e
      cases hpl : place i' with
      | none => rw [hpl] at e; cases e
      | some on =>
        obtain ⟨off, mm⟩ := on
        cases hc : s.cells with
        | none => rw [hpl, hc] at e; cases e
        | some sc =>
          rw [hpl, hc] at e
          simp only at e
          cases hb : (Nat.beq sc.length mm && Nat.ble (off + sc.length) cells.length) with
          | false => rw [hb] at e; cases e
          | true =>
            rw [hb] at e
            simp only [cond_true] at e
            simp only [Bool.and_eq_true] at hb
            have b1 := Nat.eq_of_beq_eq_true hb.1
            have b2 := Nat.le_of_ble_eq_true hb.2
            have hden := AV.cells_rel hc h3
            have hsz : u.cells.size = sc.length := by rw [← Array.length_toList]; exact hden.1
            obtain ⟨vs', q1, q2⟩ := fillA_ok e (setAtA_rel (off := off) h hden) h1 h4
            refine ⟨vs', ?_, q2⟩
            simp only [Instr.fill, hpl]
            have hlen := h.1
            have hno : ¬ (u.cells.size ≠ mm || decide (off + u.cells.size > vs.toArray.size)) = true := by
              simp [hsz, b1]; omega
            rw [if_neg hno]
            have hf : u.cells.zipIdx.foldl (fun cs (x : Value × Nat) => cs.setIfInBounds (off + x.2) x.1) vs.toArray = (vs.take off ++ (u.cells.toList ++ vs.drop (off + sc.length))).toArray := by
              rw [← Array.foldl_toList, Array.toList_zipIdx, foldl_set _ _ _ _ (by simp [hsz]; omega)]
              simp [hsz]
            rw [hf]
            exact q1

theorem Rels.at {cs : List (AV Y.T)} {us : List Value} (h : Rels Y F ρ cs us) {j : Nat} {s : AV Y.T} (hs : cs[j]? = some s) : ∃ u, us[j]? = some u ∧ Rel Y F ρ s u := h.get hs

/-- reading where some cells are known to lie -/
theorem firstA_ok {t : TypeId} {cs : List (AV Y.T)} {s : AV Y.T} {us : List Value} (h : firstA P t cs = some s) (r : Rels Y F ρ cs us) :
    ∃ u, Rel Y F ρ s u ∧ (∀ (w : World) (b off : Nat), (∀ j x, us[j]? = some x → w.cell? ⟨b, off + j, none⟩ = some x) → (Instr.loadAt t (.pointer (some ⟨b, off, none⟩))).run P w = .ok u w) ∧
      ∀ (w : World) (vs : List Value) (q : Nat), vs.drop q = us → (part t vs.toArray q).run P w = .ok u w := by
  unfold firstA at h
  cases hr : isRowB P t with
  | none => rw [hr] at h; cases hs : sizeB P t <;> rw [hs] at h <;> cases h
  | some row =>
    rw [hr] at h
    cases row with
    | true =>
      cases hs : sizeB P t with
      | none => rw [hs] at h; cases h
      | some n =>
        rw [hs] at h; simp only at h
        obtain ⟨hle, he⟩ := bif_some h
        cases he
        have hle := Nat.le_of_ble_eq_true hle
        refine ⟨.agg (us.take n).toArray, .agg (r.take n).1 (r.take n).2, fun w b off hcell => ?_, fun w vs q hq => ?_⟩
        · have hl := run_loadCells_list (P := P) w ⟨b, off, none⟩ (us.take n) (fun j v hv => by
            rw [add_at]
            rw [List.getElem?_take] at hv
            split at hv
            · exact hcell j v hv
            · cases hv)
          have hn : (us.take n).length = n := by simp [r.1]; omega
          rw [hn] at hl
          simp [Instr.loadAt, Instr.sureAddr, loadVar, Sem.run_bind, isRowB_run hr, sizeB_run hs, hl]
        · simp [part, Sem.run_bind, isRowB_run hr, sizeB_run hs, List.extract_eq_take_drop, hq]
    | false =>
      cases hs : cs[0]? with
      | none => rw [hs] at h; cases hs2 : sizeB P t <;> rw [hs2] at h <;> cases h
      | some s' =>
        have e : some s' = some s := by cases hs2 : sizeB P t <;> rw [hs2, hs] at h <;> exact h
        have e' := Option.some.inj e
        subst e'
        obtain ⟨u, hu, hrel⟩ := r.get hs
        refine ⟨u, hrel, fun w b off hcell => ?_, fun w vs q hq => ?_⟩
        · have h0 : w.cell? ⟨b, off, none⟩ = some u := hcell 0 u hu
          simp [Instr.loadAt, Instr.sureAddr, loadVar, Sem.run_bind, isRowB_run hr, h0]
        · have h0 : vs[q]? = some u := by
            have : (vs.drop q)[0]? = some u := by rw [hq]; exact hu
            rw [List.getElem?_drop] at this
            simpa using this
          simp [part, Sem.run_bind, isRowB_run hr, h0]

theorem cell_of_heap {w : World} {b : Nat} {vs : List Value} {ty : TypeId} (h : w.heap[b]? = some (.cells vs.toArray ty (0, 0))) {j : Nat} {x : Value} (hx : vs[j]? = some x) : w.cell? ⟨b, j, none⟩ = some x := by
  unfold World.cell?; rw [h]; simp [hx]

theorem fieldB_inv {t : TypeId} {f : Nat} {ft : TypeId} {fo : Nat} (h : fieldB P t f = some (ft, fo)) : ∃ fs d, P.underlying t = some (.struct fs) ∧ fs[f]? = some d ∧ d.type = ft ∧ d.offset = fo := by
  unfold fieldB at h
  cases hu : P.underlying t with
  | none => rw [hu] at h; cases h
  | some d =>
    rw [hu] at h
    cases d with
    | struct fs =>
      simp only at h
      cases hf : fs[f]? with
      | none => rw [hf] at h; cases h
      | some fd => rw [hf] at h; cases h; exact ⟨fs, fd, rfl, hf, rfl, rfl⟩
    | _ => cases h

/-- what an operation yields in every world that has what is known -/
def Yld (hY : TysOk Y) (P : Program) (F : Heap) (ρ : List Pl) (os : List (Option Obj)) (m : List (Mem Y.T)) (a : Act) (o : Oper) (s : AV Y.T) : Prop :=
  ∃ u, Rel Y F ρ s u ∧ ∀ w, F.Sub w → My hY F ρ os m w → (execOp a.eval o).run P w = .ok (.value u) w

theorem ownA_ok {s : AV Y.T} (h : Ey Y N F ρ l a) (hM : My hY F ρ os m w) (e : ownA P l m o.op = some s) : Yld hY P F ρ os m a o s := by
  have fwd : ∀ {x : Operand} {s : AV Y.T}, evA l x = some s → execOp a.eval o = Sem.pure (.value (a.eval x)) → Yld hY P F ρ os m a o s :=
    fun {x s} hx hop => ⟨a.eval x, h.eval hx, fun w _ _ => by rw [hop]; rfl⟩
  cases hop : o.op with
  | move x => rw [hop] at e; simp only [ownA] at e; exact fwd e (by unfold execOp; rw [hop]; rfl)
  | assign x => rw [hop] at e; simp only [ownA] at e; exact fwd e (by unfold execOp; rw [hop]; rfl)
  | pick c x y =>
    rw [hop] at e; simp only [ownA] at e
    split at e
    · rename_i hc
      have hcv : a.eval c = .bool true := (h.eval hc).v_inv
      exact fwd e (by unfold execOp; rw [hop]; simp only [hcv]; rfl)
    · rename_i hc
      have hcv : a.eval c = .bool false := (h.eval hc).v_inv
      exact fwd e (by unfold execOp; rw [hop]; simp only [hcv]; rfl)
    · cases e
  | extract x i =>
    rw [hop] at e; simp only [ownA] at e
    split at e
    · rename_i ss hx
      have hr := h.eval hx
      generalize hev : a.eval x = ux at hr
      cases hr with
      | @tup _ vs hl hv =>
        obtain ⟨u, hu, hrel⟩ := Rels.get ⟨hl, hv⟩ e
        refine ⟨u, hrel, fun w _ _ => ?_⟩
        unfold execOp; rw [hop]
        simp [hev, Instr.extract, hu]
    · cases e
  | nilCheck x =>
    rw [hop] at e; simp only [ownA] at e
    have go : ∀ {b off : Nat} {ep : Option (Nat × Nat)}, a.eval x = .pointer (some ⟨b, off, none⟩) → evA l x = some s → Yld hY P F ρ os m a o s := fun {b off ep} hev hx =>
      ⟨_, by have := h.eval hx; rw [hev] at this; exact this, fun w _ _ => by unfold execOp; rw [hop]; simp only [hev]; rfl⟩
    split at e
    · rename_i k off hx
      have hr := h.eval hx
      generalize hev : a.eval x = ux at hr
      cases hr with
      | ptr hk => cases e; exact ⟨_, .ptr hk, fun w _ _ => by unfold execOp; rw [hop]; simp only [hev]; rfl⟩
    · rename_i ad hx
      have hr := h.eval hx
      generalize hev : a.eval x = ux at hr
      cases hr
      cases e; exact ⟨_, .v, fun w _ _ => by unfold execOp; rw [hop]; simp only [hev]; rfl⟩
    · rename_i ss hx
      have hr := h.eval hx
      generalize hev : a.eval x = ux at hr
      cases hr with
      | el vs hl hc hv => cases e; exact ⟨_, .el vs hl hc hv, fun w _ _ => by unfold execOp; rw [hop]; simp only [hev]; rfl⟩
    · rename_i k z i off hx
      have hr := h.eval hx
      generalize hev : a.eval x = ux at hr
      cases hr with
      | oel hk => cases e; exact ⟨_, .oel hk, fun w _ _ => by unfold execOp; rw [hop]; simp only [hev]; rfl⟩
    · cases e
  | load t x =>
    rw [hop] at e; simp only [ownA] at e
    split at e
    · rename_i ss hx
      have hr := h.eval hx
      generalize hev : a.eval x = ux at hr
      cases hr with
      | el vs hl hc hv =>
        obtain ⟨u, hrel, hrun, _⟩ := firstA_ok e ⟨hl, hv⟩
        refine ⟨u, hrel, fun w hv _ => ?_⟩
        unfold execOp; rw [hop]
        simp only [hev, Sem.run_bind, hrun w _ _ (fun j x hx => cellF_read hv (hc j x hx)), Result.andThen_ok, Sem.run_pure]
    · rename_i k off hx
      split at e
      · rename_i ty cs hk
        have hr := h.eval hx
        generalize hev : a.eval x = ux at hr
        cases hr with
        | @ptr _ _ pl hpl =>
          obtain ⟨p, o', hp, ho', ⟨vs, hrs, ho, _⟩, hw⟩ := hM k _ hk
          rw [hpl] at hp; cases hp
          obtain ⟨u, hrel, hrun, _⟩ := firstA_ok e (hrs.drop off)
          refine ⟨u, hrel, fun w' _ hM' => ?_⟩
          obtain ⟨p', o2, hp', ho2, _, hw'⟩ := hM' k _ hk
          rw [hpl] at hp'; cases hp'
          rw [ho'] at ho2; cases ho2
          unfold execOp; rw [hop]
          simp only [hev, Sem.run_bind, hrun w' _ _ (fun j x hx => by rw [List.getElem?_drop] at hx; exact cell_of_heap (hw' _ ho) hx), Result.andThen_ok, Sem.run_pure]
      · cases e
    · cases e
  | fieldAddr t x f =>
    rw [hop] at e; simp only [ownA] at e
    split at e
    · rename_i k off ft fo hx hf
      split at e
      · rename_i n hs
        cases e
        obtain ⟨fs, d, hu, hd, rfl, rfl⟩ := fieldB_inv hf
        have hr := h.eval hx
        generalize hev : a.eval x = ux at hr
        cases hr with
        | ptr hk =>
          refine ⟨_, .ptr hk, fun w _ _ => ?_⟩
          unfold execOp; rw [hop]
          simp [hev, Instr.fieldAt, Instr.sureAddr, fieldPlace, Sem.run_bind, run_underlying hu, hd, sizeB_run hs, add_at]
      · cases e
    · rename_i k z i off ft fo hx hf
      split at e
      · rename_i n hs
        cases e
        obtain ⟨fs, d, hu, hd, rfl, rfl⟩ := fieldB_inv hf
        have hr := h.eval hx
        generalize hev : a.eval x = ux at hr
        cases hr with
        | oel hk =>
          refine ⟨_, .oel hk, fun w _ _ => ?_⟩
          unfold execOp; rw [hop]
          simp [hev, Instr.fieldAt, Instr.sureAddr, fieldPlace, Sem.run_bind, run_underlying hu, hd, sizeB_run hs, add_at, Nat.add_assoc]
      · cases e
    · rename_i ss ft fo hx hf
      split at e
      · rename_i n hs
        cases e
        obtain ⟨fs, d, hu, hd, rfl, rfl⟩ := fieldB_inv hf
        have hr := h.eval hx
        generalize hev : a.eval x = ux at hr
        cases hr with
        | @el _ b off vs hl hc hv =>
          have hdr := Rels.drop (⟨hl, hv⟩ : Rels Y F ρ ss vs) d.offset
          refine ⟨_, .el (b := b) (off := off + d.offset) (vs.drop d.offset) hdr.1 (fun j v hj => ?_) hdr.2, fun w _ _ => ?_⟩
          · rw [List.getElem?_drop] at hj
            have := hc _ _ hj
            rwa [← Nat.add_assoc] at this
          · unfold execOp; rw [hop]
            simp [hev, Instr.fieldAt, Instr.sureAddr, fieldPlace, Sem.run_bind, run_underlying hu, hd, sizeB_run hs, add_at]
      · cases e
    · cases e
  | build t ps =>
    rw [hop] at e; simp only [ownA] at e
    split at e
    · rename_i i ss hi hps
      split at e
      · rename_i z hz hst
        split at e
        · rename_i cs hfl
          cases e
          obtain ⟨us, p1, p2, p3⟩ := partsA_ok h hps
          obtain ⟨vs', q1, q2⟩ := fillA_ok hfl (Rels.v z.cells.toList) p2 p3
          refine ⟨.agg vs'.toArray, .agg q2.1 q2.2, fun w _ _ => ?_⟩
          unfold execOp; rw [hop]
          have hst' := hst
          unfold isStructB at hst'
          cases hu : P.underlying t with
          | none => rw [hu] at hst'; cases hst'
          | some dd =>
            rw [hu] at hst'
            cases dd with
            | struct fs =>
              have hpm : (ps.map fun (i, x) => (i, a.eval x)).toList = us := by rw [Array.toList_map]; exact p1
              obtain ⟨places, hpl, hpe⟩ := places_run (P := P) hu hst w
              rw [← hpe] at q1
              have hz2 : z.cells.toList.toArray = z.cells := by simp
              rw [hz2] at q1
              simp only [Instr.build, Sem.run_bind, zeroValue_run hi hz, Result.andThen_ok, run_underlying hu, hpl, hpm]
              rw [q1]
              rfl
            | _ => cases hst'
        · cases e
      · cases e
    · cases e
  | field t x f =>
    rw [hop] at e; simp only [ownA] at e
    split at e
    · rename_i cs ft fo hx hf
      obtain ⟨fs, d, hu, hd, rfl, rfl⟩ := fieldB_inv hf
      have hr := h.eval hx
      generalize hev : a.eval x = ux at hr
      cases hr with
      | @agg _ vs hl hv =>
        obtain ⟨u, hrel, _, hrun⟩ := firstA_ok e (Rels.drop (⟨hl, hv⟩ : Rels Y F ρ cs vs) d.offset)
        refine ⟨u, hrel, fun w _ _ => ?_⟩
        unfold execOp; rw [hop]
        simp only [hev, Instr.field, asAgg, Sem.run_bind, run_underlying hu, hd, Result.andThen_ok, Sem.run_pure, hrun w vs _ rfl]
    · cases e
  | call c =>
    rw [hop] at e
    simp only [ownA] at e
    split at e
    · rename_i x t hcal hargs hts
      split at e
      · rename_i sx et hx het
        split at e
        · rename_i n hn
          cases e
          refine ⟨_, .v, fun w _ hM' => ?_⟩
          have hr := h.eval hx
          generalize hev : a.eval x = ux at hr
          have hlen : ∃ A c, ux = .slice A n c := by
            cases hr with
            | sl b off vs hc hA hv hh => cases hn; exact ⟨_, _, rfl⟩
            | @own k pl hk =>
              simp only [lenOf] at hn
              split at hn
              · rename_i e xs hm
                cases hn
                obtain ⟨p, _, hp, _, hmr, _⟩ := hM k _ hm
                rw [hk] at hp; cases hp
                exact ⟨_, _, by rw [Pl.val_sl hmr.1, hmr.2.1]⟩
              · cases hn
            | _ => cases hn
          obtain ⟨A, c', rfl⟩ := hlen
          have hargs' : c.args.map a.eval = #[.slice A n c'] := by
            rw [← Array.toList_inj, Array.toList_map, hargs]; simp [hev]
          have hts' : c.argTypes = #[t] := by rw [← Array.toList_inj, hts]
          unfold execOp; rw [hop]
          simp only [hcal, hargs', hts', resolve, invoke, Deferred.ofValue]
          show ((do pure (Next.value (← Builtin.len_ #[t] o.type #[.slice A n c'])) : Sem Next)).run P w = _
          simp [Builtin.len_, run_underlying (elemB_under het), goInt]
        · cases e
      · cases e
    · cases e
  | _ => rw [hop] at e; simp only [ownA] at e; cases e
end
end Go.Dn

