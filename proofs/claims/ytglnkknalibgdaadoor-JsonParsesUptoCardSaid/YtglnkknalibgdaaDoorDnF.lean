/- Operations that may fail and leave all as it is. For any program. -/
import Derived.Test.YtglnkknalibgdaaDoorDnE
set_option linter.unusedVariables false
set_option linter.unusedSimpArgs false
set_option linter.unnecessarySimpa false
namespace Go.Dn
open Go.Gw Go.RowKit
set_option linter.unusedSectionVars false
variable [Dfr]
set_option linter.unusedSimpArgs false

def isStrB (P : Program) (t : TypeId) : Bool := match P.underlying t with | some .string => true | _ => false
def isU8B (P : Program) (t : TypeId) : Bool := match P.underlying t with | some (.int .u8) => true | _ => false
/-- a number type of 64 bits -/
def isI64Z (P : Program) (t : TypeId) : Bool := (match P.underlying t with | some (.int .i64) => true | _ => false) && (match P.info? t with | some i => (match i.zero with | some (.int .i64 n) => decide (n = 0) | _ => false) | none => false)
theorem isI64Z_ok {P : Program} {t : TypeId} (h : isI64Z P t = true) : P.underlying t = some (.int .i64) ∧ ∀ w, (zeroValue t).run P w = .ok (.int .i64 0) w := by
  simp only [isI64Z, Bool.and_eq_true] at h
  obtain ⟨h1, h2⟩ := h
  refine ⟨?_, fun w => ?_⟩
  · split at h1
    · assumption
    · cases h1
  · split at h2
    · rename_i i hi
      split at h2
      · rename_i n hn
        have := of_decide_eq_true h2
        subst this
        exact zeroValue_run hi hn w
      · cases h2
    · cases h2
/-- an error's number, where it is of this type -/
def assertE (t : Nat) : GErr → Option (Int × Bool)
  | .nil => some (0, false)
  | .code u n => bif Nat.beq u t then some (n, true) else some (0, false)
  | .opq => none
theorem isStrB_ok {P : Program} {t : TypeId} (h : isStrB P t = true) : P.underlying t = some .string := by
  unfold isStrB at h
  split at h
  · assumption
  · cases h
theorem isU8B_ok {P : Program} {t : TypeId} (h : isU8B P t = true) : P.underlying t = some (.int .u8) := by
  unfold isU8B at h
  split at h
  · assumption
  · cases h
def sizeIs (P : Program) (t : TypeId) (n : Nat) : Bool := match sizeB P t with | some k => Nat.beq k n | none => false
theorem sizeIs_ok {P : Program} {t : TypeId} {n : Nat} (h : sizeIs P t n = true) : sizeB P t = some n := by
  unfold sizeIs at h
  split at h
  · rename_i k hk; rw [hk, Nat.eq_of_beq_eq_true h]
  · cases h
def elemIs (P : Program) (t : TypeId) (e : Nat) : Bool := match elemB P t with | some k => Nat.beq k e | none => false
theorem elemIs_ok {P : Program} {t : TypeId} {e : Nat} (h : elemIs P t e = true) : elemB P t = some e := by
  unfold elemIs at h
  split at h
  · rename_i k hk; rw [hk, Nat.eq_of_beq_eq_true h]
  · cases h

section defs
variable {T : Nat → Type}
def bndA (l : AEnv T) : Option Operand → Option (Option Int)
  | none => some none
  | some x => match evA l x with | some (.v (.int _ n)) => some (some n) | _ => none
def evsA (l : AEnv T) : List Operand → Option (List (AV T))
  | [] => some []
  | x :: r => match evA l x, evsA l r with | some s, some ss => some (s :: ss) | _, _ => none
end defs

def arB : BinOp → Bool
  | .quo | .rem | .shl | .shr => true
  | _ => false
def shB : BinOp → Bool
  | .shl | .shr => true
  | _ => false
/-- an operation that may fail, and leaves all as it is -/
def partA {R : Type} (Y : Tys) (P : Program) (l : AEnv Y.T) (m : List (Mem Y.T)) (op : Op) (k : AV Y.T → Option R) : Option (Option R) := match op with
  | .index t x i => match evA l x, evA l i with
    | some (.v (.string q)), some (.v (.int _ n)) => bif isStrB P t then some (Option.bind (getB q.data.toList n) fun b => k (.v (.int .u8 b))) else none
    | _, _ => none
  | .indexAddr t x i => match evA l x, evA l i with
    | some (.sl e xs), some (.v (.int _ n)) => bif elemIs P t e && sizeIs P e (Y.sz e) then some (Option.bind (getI xs n) fun v => k (.el (Y.cells e v))) else none
    | some (.own j), some (.v (.int _ n)) => match m[j]? with
      | some (.arr e xs) => bif elemIs P t e && sizeIs P e (Y.sz e) then some (Option.bind (getI xs n) fun _ => k (.oel j (Y.sz e) n 0)) else none
      | _ => none
    | _, _ => none
  | .load t x => match evA l x with
    | some (.oel j z i off) => match m[j]? with
      | some (.arr e xs) => bif Nat.beq z (Y.sz e) then some (Option.bind (getI xs i) fun v => match firstA P t ((Y.cells e v).drop off) with | some y => k y | none => none) else none
      | _ => none
    | _ => none
  | .slice t x lo hi none => match bndA l lo, bndA l hi, evA l x with
    | some ol, some oh, some (.v (.string q)) => bif isStrB P t then some (Option.bind (cutL q.data.toList (ol.getD 0) (oh.getD (q.data.toList.length : Int))) fun r => k (.v (.string ⟨⟨r⟩⟩))) else none
    | some ol, some oh, some (.sl e xs) => bif elemIs P t e && sizeIs P e (Y.sz e) then some (Option.bind (cutL xs (ol.getD 0) (oh.getD (xs.length : Int))) fun r => k (.sl e r)) else none
    | _, _, _ => none
  | .binOp op _ x y _ => match evA l x, evA l y with
    | some (.v (.string s)), some (.v (.string t)) => match op with
      | .add => some (Option.bind (catS s.data.toList t.data.toList) fun r => k (.v (.string ⟨⟨r⟩⟩)))
      | _ => none
    | some (.v (.int i p)), some (.v (.int j q)) => bif arB op && (shB op || decide (i = j)) then some (Option.bind (arI op i p q) fun r => k (.v (.int i r))) else none
    | _, _ => none
  | .convert s t x => match evA l x with
    | some a => bif elemIs P s Y.byt && isU8B P Y.byt && isStrB P t then (match slAs Y.byt m a with | some xs => some (k (.v (.string ⟨⟨cast (congrArg List Y.isB) xs⟩⟩))) | none => none) else none
    | _ => none
  | .makeFunc f first caps => match f, first.toList, evsA l caps.toList with
    | .func f, [], some cs => some (k (.fn f cs))
    | _, _, _ => none
  | .makeInterface t x => match evA l x with
    | some (.v (.int .i64 n)) => bif P.concrete t then some (k (.err (.code t n))) else none
    | _ => none
  | .typeAssert x _ t true => match evA l x with
    | some (.err e) => bif isI64Z P t then some (Option.bind (assertE t e) fun r => k (.tup [.v (.int .i64 r.1), .v (.bool r.2)])) else none
    | _ => none
  | _ => none

section
variable {Y : Tys} {hY : TysOk Y} {P : Program} {N : Nat} {F : Heap} {ρ : List Pl} {os : List (Option Obj)} {l : AEnv Y.T} {m : List (Mem Y.T)} {a : Act} {w : World} {o : Oper}

theorem bndA_eval (h : Ey Y N F ρ l a) {x : Option Operand} {r : Option Int} (e : bndA l x = some r) :
    (x = none ∧ r = none) ∨ ∃ y k n, x = some y ∧ r = some n ∧ a.eval y = .int k n := by
  cases x with
  | none => cases e; exact .inl ⟨rfl, rfl⟩
  | some y =>
    right
    simp only [bndA] at e
    split at e
    · rename_i k n hy; cases e; exact ⟨y, _, _, rfl, rfl, (h.eval hy).v_inv⟩
    · cases e
theorem sliceBoundsA (h : Ey Y N F ρ l a) {lo hi : Option Operand} {ol oh : Option Int} {len cap : Nat} {b : Bool} (hl : bndA l lo = some ol) (hh : bndA l hi = some oh)
    (h0 : 0 ≤ ol.getD 0) (h1 : ol.getD 0 ≤ oh.getD len) (h2 : oh.getD len ≤ len) (hlc : len ≤ cap) (w : World) :
    (Instr.sliceBounds b len cap (lo.map a.eval) (hi.map a.eval) none).run P w = .ok ((ol.getD 0).toNat, (oh.getD len).toNat, cap) w := by
  rcases bndA_eval h hl with ⟨rfl, rfl⟩ | ⟨x, k, n, rfl, rfl, ex⟩ <;> rcases bndA_eval h hh with ⟨rfl, rfl⟩ | ⟨y, k', m, rfl, rfl, ey⟩
  · simp [Instr.sliceBounds]
  · simp only [Option.getD_none, Option.getD_some] at h0 h1 h2
    have hm : (m : Int) ≤ cap := by omega
    simp [Instr.sliceBounds, ey, sliceBound_run h1 hm]
  · simp only [Option.getD_none, Option.getD_some] at h0 h1 h2
    simp [Instr.sliceBounds, ex, sliceBound_run h0 h1]
  · simp only [Option.getD_none, Option.getD_some] at h0 h1 h2
    have hm : (m : Int) ≤ cap := by omega
    have hm0 : 0 ≤ m := by omega
    have hn : n ≤ ((m.toNat : Nat) : Int) := by omega
    simp [Instr.sliceBounds, ex, ey, sliceBound_run hm0 hm, sliceBound_run h0 hn]
theorem evsA_ok (h : Ey Y N F ρ l a) : ∀ {xs : List Operand} {ss : List (AV Y.T)}, evsA l xs = some ss → Rels Y F ρ ss (xs.map a.eval)
  | [], ss, e => by cases e; exact Rels.nil
  | x :: r, ss, e => by
    simp only [evsA] at e
    cases hx : evA l x with
    | none => rw [hx] at e; cases e
    | some s =>
      cases hr : evsA l r with
      | none => rw [hx, hr] at e; cases e
      | some ss' => rw [hx, hr] at e; cases e; exact Rels.cons (h.eval hx) (evsA_ok h hr)

theorem bif_do {α : Type} {c : Bool} {x : Option α} {y : α} (h : (bif c then x else none) = some y) : c = true ∧ x = some y := by
  cases c
  · cases h
  · exact ⟨rfl, h⟩
theorem bnd_do {α R : Type} {x : Option α} {f : α → Option R} {r : R} (h : some (Option.bind x f) = some (some r)) : ∃ v, x = some v ∧ f v = some r := by
  have h := Option.some.inj h
  cases x with
  | none => cases h
  | some v => exact ⟨v, rfl, h⟩

theorem slAs_my (hv : F.Sub w) (hM : My hY F ρ os m w) {e : Nat} {x : AV Y.T} {ys : List (Y.T e)} {u : Value} (hx : slAs e m x = some ys) (hr : Rel Y F ρ x u) : SlIn hY F w e ys u := by
  unfold slAs at hx
  split at hx
  · rename_i e' xs
    split at hx
    · rename_i he
      subst he
      cases hx
      cases hr with
      | @sl _ _ A c b off vs hc hA hv' hh =>
        refine ⟨A, c, rfl, hc, ?_⟩
        cases hxs : xs with
        | nil => exact .inl rfl
        | cons x0 r =>
          right
          rw [← hxs]
          refine ⟨b, off, hA 0 x0 (by rw [hxs]; rfl), fun i x hx => ⟨vs i, ⟨by rw [(hv' i x hx).1, hY.len], fun j a u h1 h2 => ?_⟩, fun j v hj => cellF_read hv ((hv' i x hx).2 j v hj)⟩⟩
          exact (hh i x j a u hx h1 h2).closed hY (AV.frees_iff.1 (hY.free e' x) a (List.mem_of_getElem? h1))
    · cases hx
  · rename_i k
    split at hx
    · rename_i e' xs hk
      split at hx
      · rename_i he
        subst he
        cases hx
        cases hr with
        | @own _ pl hp =>
          obtain ⟨p, o, hp', ho, ⟨hmp, hn, hm⟩, hblk⟩ := hM k _ hk
          rw [hp] at hp'; cases hp'
          rw [Pl.val_sl hmp]
          rcases hm with ⟨hA, hc, rfl, rfl⟩ | ⟨cs, hA, rfl, hle, _, hsz, hrow⟩
          · exact ⟨pl.A, pl.c, by rw [hn], by simp, .inl rfl⟩
          · refine ⟨pl.A, pl.c, by rw [hn], hle, .inr ⟨pl.blk, 0, hA, fun i x hx => ?_⟩⟩
            obtain ⟨us, h1, h2⟩ := hrow i x hx
            refine ⟨us, h1, fun j v hv => ?_⟩
            unfold World.cell?
            rw [hblk _ rfl]
            have h3 : cs.toList[i * Y.sz e' + j]? = some v := h2 j v hv
            rw [Nat.zero_add]
            simpa using h3
      · cases hx
    · cases hx
  · cases hx
    cases hr
    exact ⟨none, 0, rfl, Nat.le_refl _, .inl rfl⟩
  · cases hx

theorem conv_run {t1 t2 : TypeId} {xs : List (Y.T Y.byt)} {u : Value} (h1 : elemB P t1 = some Y.byt) (h2 : P.underlying Y.byt = some (.int .u8)) (h3 : P.underlying t2 = some .string) (hsz : Y.sz Y.byt = 1) (hs : SlIn hY F w Y.byt xs u) :
    (convert t1 t2 u).run P w = .ok (.string ⟨⟨cast (congrArg List Y.isB) xs⟩⟩) w := by
  obtain ⟨A, c, rfl, hc, h⟩ := hs
  have gen : ∀ {β : Type} (hb : β = UInt8) (l : List β), cast (congrArg List hb) l = l.map (cast hb) := by
    intro β hb l; subst hb; show l = l.map id; simp
  rw [gen Y.isB]
  rcases h with rfl | ⟨b, off, rfl, hcells⟩
  · cases A with
    | none =>
      have := run_convert_bytes_nil (P := P) w t1 Y.byt (elemB_under h1) h2 0 c t2 h3
      simp only [List.length_nil, this]
      rfl
    | some ad =>
      have := run_convert_bytes_string (P := P) w t1 t2 Y.byt (some ad) 0 c (elemB_under h1) h2 h3
      simp only [List.length_nil, this]
      simp [Conv.bytesToString, loadCells, loadCellsFrom]
      rfl
  · have := run_convert_bytes_arg (P := P) w t1 Y.byt (elemB_under h1) h2 b off xs.length c (xs.map fun x => ((cast Y.isB x).toNat : Int)) (by simp) (fun i hi => by
      obtain ⟨us, q1, q2⟩ := hcells i xs[i] (List.getElem?_eq_getElem hi)
      have q1 : Rels Y F [] (Y.cells Y.byt xs[i]) us := q1
      rw [hY.byte] at q1
      obtain ⟨u, r, rfl, r1, r2⟩ := q1.inv
      have := q2 0 u rfl
      rw [hsz, Nat.mul_one, Nat.add_zero] at this
      rw [this, r1.v_inv]
      simp [List.getD, hi]) t2 h3
    rw [this]
    have e : (xs.map fun x => ((cast Y.isB x).toNat : Int)) = (xs.map (cast Y.isB)).map fun b : UInt8 => (b.toNat : Int) := by simp
    rw [e, strOf_bytes]

theorem partA_ok {R : Type} {k : AV Y.T → Option R} {r : R} (hsz : Y.sz Y.byt = 1) (h : Ey Y N F ρ l a) (hM : My hY F ρ os m w) (e : partA Y P l m o.op k = some (some r)) : ∃ x, Yld hY P F ρ os m a o x ∧ k x = some r := by
  unfold partA at e
  split at e
  · rename_i t x i hop
    split at e
    · rename_i q kk n hx hi
      obtain ⟨ht, e⟩ := bif_do e
      obtain ⟨b, hb, hk⟩ := bnd_do e
      refine ⟨_, ⟨_, .v, fun w _ _ => ?_⟩, hk⟩
      have e1 := (h.eval hx).v_inv
      have e2 := (h.eval hi).v_inv
      unfold getB at hb
      split at hb
      · rename_i h0
        obtain ⟨c, hc, rfl⟩ := Option.map_eq_some_iff.1 hb
        unfold execOp; rw [hop]
        have hq : q[n.toNat]? = some c := by
          have := bytes_get q.data.toList n.toNat
          rw [hc] at this; exact this
        simp only [e1, e2, Instr.index, asIntOf, Sem.run_bind, Sem.run_pure, Result.andThen_ok, run_underlying (isStrB_ok ht), h0, if_true, hq, pure_bind]
      · cases hb
    · cases e
  · rename_i t x i hop
    split at e
    · rename_i ee xs kk n hx hi
      obtain ⟨ht, e⟩ := bif_do e
      obtain ⟨v, hv, hk⟩ := bnd_do e
      simp only [Bool.and_eq_true] at ht
      have hT := elemB_under (elemIs_ok ht.1)
      have hS := sizeIs_ok ht.2
      have e2 := (h.eval hi).v_inv
      have hr := h.eval hx
      generalize e1 : a.eval x = ux at hr
      cases hr with
      | @sl _ _ A c b off vs hc hA hvs hh =>
        unfold getI at hv
        split at hv
        · rename_i h0
          have hlt := (List.getElem?_eq_some_iff.1 hv).1
          have hA' := hA _ _ hv
          subst hA'
          have hel : Rels Y F ρ (Y.cells ee v) (vs n.toNat) := ⟨by rw [(hvs _ _ hv).1, hY.len], fun j a u h1 h2 => hh _ _ j a u hv h1 h2⟩
          refine ⟨_, ⟨_, .el (b := b) (off := off + n.toNat * Y.sz ee) (vs n.toNat) hel.1 (hvs _ _ hv).2 hel.2, fun w _ _ => ?_⟩, hk⟩
          unfold execOp; rw [hop]
          have hin : 0 ≤ n ∧ n < (xs.length : Int) := ⟨h0, by omega⟩
          simp only [Instr.indexAt, e1, e2, asIntOf, Sem.run_bind, Sem.run_pure, Result.andThen_ok, run_underlying hT, Bool.and_false, hin, and_self, if_true, sizeB_run hS, add_at, pure_bind]
        · cases hv
    · rename_i j kk n hx hi
      split at e
      · rename_i ee xs hm
        obtain ⟨ht, e⟩ := bif_do e
        obtain ⟨v, hv, hk⟩ := bnd_do e
        simp only [Bool.and_eq_true] at ht
        have hT := elemB_under (elemIs_ok ht.1)
        have hS := sizeIs_ok ht.2
        have e2 := (h.eval hi).v_inv
        have hr := h.eval hx
        generalize e1 : a.eval x = ux at hr
        cases hr with
        | @own _ pl hp =>
          obtain ⟨p, o', hp', ho, ⟨hmp, hn, hmm⟩, hblk⟩ := hM j _ hm
          rw [hp] at hp'; cases hp'
          rw [Pl.val_sl hmp] at e1
          unfold getI at hv
          split at hv
          · rename_i h0
            have hlt := (List.getElem?_eq_some_iff.1 hv).1
            rcases hmm with ⟨hA, hc, rfl, rfl⟩ | ⟨cs, hA, rfl, hle, _, hsz2, hrow⟩
            · simp at hlt
            · refine ⟨_, ⟨_, .oel hp, fun w _ _ => ?_⟩, hk⟩
              unfold execOp; rw [hop]
              have hin : 0 ≤ n ∧ n < (pl.n : Int) := ⟨h0, by omega⟩
              rw [hA] at e1
              simp only [Instr.indexAt, e1, e2, asIntOf, Sem.run_bind, Sem.run_pure, Result.andThen_ok, run_underlying hT, Bool.and_false, hin, and_self, if_true, sizeB_run hS, add_at, pure_bind, Nat.zero_add, Nat.add_zero]
          · cases hv
      · cases e
    · cases e
  · rename_i t x hop
    split at e
    · rename_i j z i off hx
      split at e
      · rename_i ee xs hm
        obtain ⟨hz, e⟩ := bif_do e
        have hz := Nat.eq_of_beq_eq_true hz
        obtain ⟨v, hv, hk⟩ := bnd_do e
        split at hk
        · rename_i y hy
          have hr := h.eval hx
          generalize e1 : a.eval x = ux at hr
          cases hr with
          | @oel _ _ _ _ pl hp =>
            obtain ⟨p, o', hp', ho, ⟨hmp, hn, hmm⟩, hblk⟩ := hM j _ hm
            rw [hp] at hp'; cases hp'
            unfold getI at hv
            split at hv
            · rename_i h0
              rcases hmm with ⟨hA, hc, rfl, rfl⟩ | ⟨cs, hA, rfl, hle, _, hsz2, hrow⟩
              · simp at hv
              · obtain ⟨us, q1, q2⟩ := hrow _ _ hv
                have q1 : Rels Y F [] (Y.cells ee v) us := q1
                obtain ⟨u, hu, hrun, _⟩ := firstA_ok hy ((q1.mono (.refl F) (ρ' := ρ) fun _ _ h => by simp at h).drop off)
                refine ⟨_, ⟨u, hu, fun w _ hM' => ?_⟩, hk⟩
                obtain ⟨p2, o2, hp2, ho2, _, hblk2⟩ := hM' j _ hm
                rw [hp] at hp2; cases hp2
                rw [ho] at ho2; cases ho2
                unfold execOp; rw [hop]
                have : (Instr.loadAt t (.pointer (some ⟨pl.blk, i.toNat * z + off, none⟩))).run P w = .ok u w := hrun w _ _ fun jj xx hh => by
                  rw [List.getElem?_drop] at hh
                  have h3 : cs.toList[i.toNat * Y.sz ee + (off + jj)]? = some xx := q2 _ xx hh
                  unfold World.cell?
                  rw [hblk2 _ rfl, hz]
                  rw [Nat.add_assoc]
                  simpa using h3
                simp only [e1, Sem.run_bind, this, Result.andThen_ok, Sem.run_pure]
            · cases hv
        · cases hk
      · cases e
    · cases e
  · rename_i t x lo hi hop
    split at e
    · rename_i ol oh q hl hh hx
      obtain ⟨ht, e⟩ := bif_do e
      obtain ⟨v, hv, hk⟩ := bnd_do e
      have e1 := (h.eval hx).v_inv
      unfold cutL at hv
      split at hv
      · rename_i hc
        cases hv
        refine ⟨_, ⟨_, .v, fun w _ _ => ?_⟩, hk⟩
        have hb := sliceBoundsA (P := P) (b := false) (len := q.data.toList.length) (cap := q.data.toList.length) h hl hh hc.1 hc.2.1 hc.2.2 (Nat.le_refl _) w
        unfold execOp; rw [hop]
        have hsz : q.size = q.data.toList.length := rfl
        have hext := bytes_extract q.data.toList (ol.getD 0).toNat (oh.getD (q.data.toList.length : Int)).toNat
        have hq : (⟨⟨q.data.toList⟩⟩ : ByteArray) = q := rfl
        rw [hq] at hext
        simp only [Instr.sliceAt, Sem.run_bind, run_underlying (isStrB_ok ht), Result.andThen_ok, e1, Instr.slice, Option.map_none, Option.isSome_none, Bool.false_eq_true, if_false, hsz, hb, Sem.run_pure, hext, pure_bind]
      · cases hv
    · rename_i ol oh ee xs hl hh hx
      obtain ⟨ht, e⟩ := bif_do e
      obtain ⟨v, hv, hk⟩ := bnd_do e
      simp only [Bool.and_eq_true] at ht
      have hT := elemB_under (elemIs_ok ht.1)
      have hS := sizeIs_ok ht.2
      have hr := h.eval hx
      generalize e1 : a.eval x = ux at hr
      cases hr with
      | @sl _ _ A c b off vs hc hA hvs hh2 =>
        unfold cutL at hv
        split at hv
        · rename_i hcc
          cases hv
          have hlen : ((xs.drop (ol.getD 0).toNat).take ((oh.getD (xs.length : Int)).toNat - (ol.getD 0).toNat)).length = (oh.getD (xs.length : Int)).toNat - (ol.getD 0).toNat := by
            simp; omega
          generalize hi0 : (ol.getD 0).toNat = i at hlen hk
          generalize hm0 : (oh.getD (xs.length : Int)).toNat - i = mm at hlen hk
          have hget : ∀ j x, ((xs.drop i).take mm)[j]? = some x → xs[i + j]? = some x := fun j x hx => by
            rw [List.getElem?_take] at hx
            split at hx
            · rwa [List.getElem?_drop] at hx
            · cases hx
          refine ⟨_, ⟨.slice (if c = i then A else A.map (·.add (i * Y.sz ee))) ((xs.drop i).take mm).length (c - i), ?_, fun w _ _ => ?_⟩, hk⟩
          · refine .sl b (off + i * Y.sz ee) (fun j => vs (i + j)) (by rw [hlen]; omega) (fun j x hx => ?_) (fun j x hx => ?_) (fun j x q a u hx h1 h2 => hh2 _ _ q a u (hget j x hx) h1 h2)
            · have h1 := hget j x hx
              have hlt := (List.getElem?_eq_some_iff.1 h1).1
              have hne : c ≠ i := by omega
              rw [if_neg hne, hA _ _ h1]
              simp [add_at]
            · have h1 := hvs _ _ (hget j x hx)
              refine ⟨h1.1, ?_⟩
              have := h1.2
              rwa [Nat.add_mul, ← Nat.add_assoc] at this
          · have hb := sliceBoundsA (P := P) (b := true) (len := xs.length) (cap := c) h hl hh hcc.1 hcc.2.1 hcc.2.2 hc w
            unfold execOp; rw [hop]
            subst hi0; subst hm0
            simp only [Instr.sliceAt, Sem.run_bind, run_underlying hT, Result.andThen_ok, e1, Instr.slice, Option.map_none, hb, sizeB_run hS, Sem.run_pure, hlen, pure_bind]
        · cases hv
    · cases e
  · rename_i op t x y t2 hop
    split at e
    · rename_i s t hx hy
      split at e
      · obtain ⟨v, hv, hk⟩ := bnd_do e
        have e1 := (h.eval hx).v_inv
        have e2 := (h.eval hy).v_inv
        refine ⟨_, ⟨_, .v, fun w _ _ => ?_⟩, hk⟩
        unfold catS at hv
        split at hv
        · rename_i hc
          cases hv
          have hsz : ¬ (((s.size + t.size : Nat) : Int) > IntKind.i64.max) := by
            show ¬ (((s.data.toList.length + t.data.toList.length : Nat) : Int) > _)
            simp only [IntKind.max, IntKind.signed, IntKind.bits]
            simp
            simp at hc
            omega
          unfold execOp; rw [hop]
          simp only [e1, e2, eqGuard, binOp, Op.stringOp, Sem.run_bind, Sem.run_pure, Result.andThen_ok, hsz, if_false, pure_bind]
          rfl
        · cases hv
      · cases e
    · rename_i i p j q hx hy
      obtain ⟨ht, e⟩ := bif_do e
      obtain ⟨v, hv, hk⟩ := bnd_do e
      have e1 := (h.eval hx).v_inv
      have e2 := (h.eval hy).v_inv
      refine ⟨_, ⟨_, .v, fun w _ _ => ?_⟩, hk⟩
      unfold execOp; rw [hop]
      simp only [Bool.and_eq_true, Bool.or_eq_true, decide_eq_true_eq] at ht
      cases op <;> simp only [arI] at hv <;> (try cases hv)
      · unfold quoI at hv
        split at hv
        · cases hv
        · rename_i hn
          cases hv
          have hkk : i = j := by rcases ht.2 with e | e <;> first | exact e | cases e
          subst hkk
          simp only [e1, e2, eqGuard, binOp, Op.intDiv, if_neg hn, ne_eq, not_true_eq_false, if_false, Sem.run_bind, Sem.run_pure, Result.andThen_ok, pure_bind, Bool.not_false, if_true]
      · unfold remI at hv
        split at hv
        · cases hv
        · rename_i hn
          cases hv
          have hkk : i = j := by rcases ht.2 with e | e <;> first | exact e | cases e
          subst hkk
          simp only [e1, e2, eqGuard, binOp, Op.intDiv, if_neg hn, ne_eq, not_true_eq_false, if_false, Sem.run_bind, Sem.run_pure, Result.andThen_ok, pure_bind, Bool.not_false, if_true]
      · unfold shlI at hv
        split at hv
        · cases hv
        · rename_i hn
          cases hv
          simp only [e1, e2, eqGuard, binOp, Op.shift, if_neg hn, Sem.run_bind, Sem.run_pure, Result.andThen_ok, pure_bind, Bool.not_false, if_true]
      · unfold shrI at hv
        split at hv
        · cases hv
        · rename_i hn
          cases hv
          simp only [e1, e2, eqGuard, binOp, Op.shift, if_neg hn, Sem.run_bind, Sem.run_pure, Result.andThen_ok, pure_bind, Bool.not_false, if_true]
    · cases e
  · rename_i s t x hop
    split at e
    · rename_i av hx
      obtain ⟨ht, e⟩ := bif_do e
      simp only [Bool.and_eq_true] at ht
      split at e
      · rename_i xs hxs
        have hk := Option.some.inj e
        refine ⟨_, ⟨_, .v, fun w hv hM' => ?_⟩, hk⟩
        have := conv_run (P := P) (elemIs_ok ht.1.1) (isU8B_ok ht.1.2) (isStrB_ok ht.2) hsz (slAs_my hv hM' hxs (h.eval hx))
        unfold execOp; rw [hop]
        simp only [Sem.run_bind, this, Result.andThen_ok, Sem.run_pure]
      · cases e
    · cases e
  · rename_i f first caps hop
    split at e
    · rename_i f cs hf hcs
      have hk := Option.some.inj e
      have hr := evsA_ok h hcs
      refine ⟨_, ⟨_, .fn hr.1 hr.2, fun w _ _ => ?_⟩, hk⟩
      have hfirst : first = #[] := by rw [← Array.toList_inj, hf]
      unfold execOp; rw [hop]
      have hcap : Array.map a.eval caps = (List.map a.eval caps.toList).toArray := by rw [← Array.toList_inj]; simp
      simp [hfirst, Instr.makeFunc, hcap]
    · cases e
  · rename_i t x hop
    split at e
    · rename_i n hx
      obtain ⟨ht, e⟩ := bif_do e
      have hk := Option.some.inj e
      have e1 := (h.eval hx).v_inv
      refine ⟨_, ⟨errV (.code t n) errY, .err, fun w _ _ => ?_⟩, hk⟩
      unfold execOp; rw [hop]
      simp only [e1, Sem.run_bind, run_makeInterface w t _ ht, Result.andThen_ok, Sem.run_pure, pure_bind]
      rfl
    · cases e
  · rename_i x xt t hop
    split at e
    · rename_i g hx
      obtain ⟨ht, e⟩ := bif_do e
      obtain ⟨r2, h2, hk⟩ := bnd_some (Option.some.inj e)
      obtain ⟨hu, hz⟩ := isI64Z_ok ht
      have hr := h.eval hx
      generalize hev : a.eval x = u at hr
      have hrs : Rels Y F ρ [.v (.int .i64 r2.1), .v (.bool r2.2)] [.int .i64 r2.1, .bool r2.2] := Rels.cons .v (Rels.cons .v Rels.nil)
      have hrel : Rel Y F ρ (.tup [.v (.int .i64 r2.1), .v (.bool r2.2)]) (.tuple #[.int .i64 r2.1, .bool r2.2]) := .tup (vs := [_, _]) hrs.1 hrs.2
      refine ⟨_, ⟨_, hrel, fun w _ _ => ?_⟩, hk⟩
      unfold execOp; rw [hop]
      cases g with
      | nil =>
        cases h2
        cases hr
        simp [hev, errV, Instr.typeAssert, run_underlying hu, hz, Sem.run_bind]
      | code t2 n =>
        cases hr
        simp only [assertE] at h2
        cases hb : Nat.beq t2 t with
        | true =>
          rw [hb] at h2
          cases h2
          have := Nat.eq_of_beq_eq_true hb
          subst this
          simp [hev, errV, Instr.typeAssert, run_underlying hu, Sem.run_bind]
        | false =>
          rw [hb] at h2
          cases h2
          have hne : ¬ t2 = t := fun e => by subst e; rw [Nat.beq_refl] at hb; cases hb
          simp [hev, errV, Instr.typeAssert, run_underlying hu, hz, Sem.run_bind, hne]
      | opq => cases h2
    · cases e
  · cases e
end
end Go.Dn

