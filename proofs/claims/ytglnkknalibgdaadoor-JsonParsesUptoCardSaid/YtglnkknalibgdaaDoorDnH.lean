/- Slices written out, memory written, bytes, append. For any program. -/
import Derived.Test.YtglnkknalibgdaaDoorDnG
set_option linter.unusedVariables false
set_option linter.unusedSimpArgs false
set_option linter.unnecessarySimpa false
namespace Go.Dn
open Go.Gw Go.RowKit
set_option linter.unusedSectionVars false
variable [Dfr]
set_option linter.unusedSimpArgs false

section
variable {Y : Tys} {hY : TysOk Y} {P : Program} {N : Nat} {w0 : World} {F0 : Heap} {D : Own} {H : List (Option Nat)} {w w' : World} {F F' : Heap} {ρ ρ' : List Pl} {os os' : List (Option Obj)} {s s' : Sy Y.T} {a a' : Act} {o : Oper} {R : Type} {ok : Nat → Bool} {k : Sy Y.T → Option R} {r : R} {K : Act → World → Prop} {Q : Exit → Act → World → Prop}

def zeroIs (P : Program) (e n : Nat) : Bool := match zeroB P e with | some z => Nat.beq z.cells.size n | none => false
theorem zeroIs_ok {e n : Nat} (h : zeroIs P e n = true) : ∃ i z, P.info? e = some i ∧ i.zero = some z ∧ z.cells.size = n := by
  unfold zeroIs zeroB at h
  cases hi : P.info? e with
  | none => rw [hi] at h; cases h
  | some i =>
    rw [hi] at h
    simp only at h
    cases hz : i.zero with
    | none => rw [hz] at h; cases h
    | some z => rw [hz] at h; exact ⟨i, z, rfl, hz, Nat.eq_of_beq_eq_true h⟩

/-- a slice written out -/
def buildA (Y : Tys) (P : Program) (s : Sy Y.T) (k : Sy Y.T → Mem Y.T → Option R) : Op → Option R
  | .buildSlice t len ps => match elemB P t with
    | some e =>
      let s1 := s.frzs (opOwns s.l (ps.toList.map (·.2)))
      match partsA s1.l ps.toList with
      | some ss => rowK Y e 0 ss fun ys => bif Nat.beq ss.length len && sizeIs P e (Y.sz e) && Nat.ble 1 (Y.sz e) && Nat.ble (len * Y.sz e) 16777216 && Nat.ble 1 len && zeroIs P e (Y.sz e) then k s1 (.arr e ys) else none
      | none => none
    | none => none
  | _ => none
theorem buildA_ok (h : Cy hY N w0 F0 D H w F ρ os s a) (e : buildA Y P s (fun s1 x => fin N o ⟨s1.l, s1.m ++ [x]⟩ (.own s1.m.length) k) o.op = some r)
    (hg : Goes hY N w0 F0 D H ok F ρ os s.m k r K) : o.wp P a w K Q := by
  unfold buildA at e
  split at e
  · rename_i t len ps hop
    split at e
    · rename_i el hel
      dsimp only at e
      split at e
      · rename_i ss hps
        · obtain ⟨ys, hys, e⟩ := rowK_ok hY e
          obtain ⟨hc, e2⟩ := bif_do e
          clear e
          simp only [Bool.and_eq_true] at hc
          obtain ⟨⟨⟨⟨⟨c1, c2⟩, c3⟩, c4⟩, c5⟩, c6⟩ := hc
          have c1 := Nat.eq_of_beq_eq_true c1
          have c2 := sizeIs_ok c2
          have c3 := Nat.le_of_ble_eq_true c3
          have c4 := Nat.le_of_ble_eq_true c4
          have c5 := Nat.le_of_ble_eq_true c5
          obtain ⟨i, z, hi, hz, hzs⟩ := zeroIs_ok c6
          obtain ⟨F1, os1, h1, t1⟩ := h.frzs (ok := ok) (opOwns s.l (ps.toList.map (·.2)))
          generalize hs1 : s.frzs (opOwns s.l (ps.toList.map (·.2))) = s1 at h1 t1 hps e2
          obtain ⟨us, p1, p2, p3⟩ := partsA_ok h1.e hps
          have hbase : ((Array.range (len * Y.sz el)).map fun x => z.cells[x % z.cells.size]!).size = len * Y.sz el := by simp
          obtain ⟨vs, q1, q2, q3, q4⟩ := rowX_ok (hY := hY) (F := F1) (ρ := ρ) rfl (j := 0) ((Array.range (len * Y.sz el)).map fun x => z.cells[x % z.cells.size]!) hys p2 p3 (by rw [hbase, c1, Nat.zero_add]; exact Nat.le_refl _)
          have hle : len ≤ len * Y.sz el := by
            have := Nat.mul_le_mul_left len c3
            omega
          have h2 := h1.alloc (x := .arr el ys) (p := ⟨w.heap.size, some ⟨w.heap.size, 0, none⟩, len, len, false⟩) (ob := .cells vs.toArray el (0, 0)) rfl
            ⟨rfl, by rw [q2, c1], .inr ⟨vs.toArray, rfl, rfl, by rw [q2, c1]; exact Nat.le_refl _, by show len ≤ maxLen; rw [maxLen_eq]; omega, by simp [q1, q2, c1], by simpa using q3⟩⟩
          refine fin_ok (s := s) (s' := ⟨s1.l, s1.m ++ [.arr el ys]⟩) h2 (t1.trans (Tr.grow ok (.refl F1)) h1.lon) ?_ (.own (pl := ⟨w.heap.size, some ⟨w.heap.size, 0, none⟩, len, len, false⟩) (by rw [h1.len]; simp)) e2 hg
          unfold execOp; rw [hop]
          have hpm : (ps.map fun (i, x) => (i, a.eval x)).toList = us := by rw [Array.toList_map]; exact p1
          have hno : ¬ len * Y.sz el > 2 ^ 24 := by omega
          have hdrop : ((Array.range (len * Y.sz el)).map fun x => z.cells[x % z.cells.size]!).toList.drop ((0 + ss.length) * Y.sz el) = [] := by
            rw [List.drop_of_length_le]; rw [Array.length_toList, hbase, c1, Nat.zero_add]; exact Nat.le_refl _
          rw [hdrop] at q4
          simp only [Nat.zero_mul, List.take_zero, List.nil_append, List.append_nil] at q4
          have h0 : ¬ len * Y.sz el = 0 := by omega
          simp only [Instr.buildSlice, Sem.run_bind, run_underlying (elemB_under hel), Result.andThen_ok, sizeB_run c2, hno, if_false, h0, zeroValue_run hi hz, Sem.run_pure, hpm, q4]
          simp only [newRow_run, Result.andThen_ok, Sem.run_pure, Pl.val, cond_false]
      · cases e
    · cases e
  · cases e

/-- memory is written -/
def storeA (P : Program) (ok : Nat → Bool) (s : Sy Y.T) : Op → Option (Sy Y.T)
  | .store t x y => match evA s.l x, evA s.l y with
    | some (.ptr j off), some v => match s.m[j]?, v.cells with
      | some (.cells ty cs), some vc => bif sizeIs P t vc.length && Nat.ble (off + vc.length) cs.length && AV.ones vc && ok j && bldOff off vc.length (Y.bld ty) then some ⟨s.l, s.m.set j (.cells ty (setAtA cs off vc))⟩ else none
      | _, _ => none
    | _, _ => none
  | _ => none
theorem storeA_ok {s1 : Sy Y.T} (h : Cy hY N w0 F0 D H w F ρ os s a) (e : storeA P ok s o.op = some s1) (e2 : fin N o s1 (.v undef) k = some r)
    (hg : Goes hY N w0 F0 D H ok F ρ os s.m k r K) : o.wp P a w K Q := by
  unfold storeA at e
  split at e
  · rename_i t x y hop
    split at e
    · rename_i j off v hx hy
      split at e
      · rename_i ty cs vc hj hvc
        obtain ⟨hc, e⟩ := bif_some e
        cases e
        simp only [Bool.and_eq_true] at hc
        obtain ⟨⟨⟨⟨c1, c2⟩, c3⟩, c4⟩, c5⟩ := hc
        have c1 := sizeIs_ok c1
        have c2 := Nat.le_of_ble_eq_true c2
        obtain ⟨p, ob, hp, ho, vs, hr, hob, hbo⟩ := h.at hj
        subst hob
        have hrx := h.e.eval hx
        generalize hev : a.eval x = ux at hrx
        cases hrx with
        | @ptr _ _ p' hp' =>
        rw [hp] at hp'; cases hp'
        have hry := AV.cells_rel hvc (h.e.eval hy)
        have hblk := h.blk hp ho
        have hlen := hry.1
        obtain ⟨q1, q2, q3, q4, q5⟩ := setCells_os p.blk (a.eval y).cells.toList off w
        have q6 := setCells_block p.blk (a.eval y).cells.toList off w _ hblk (by rw [hlen]; simp [hr.1]; exact c2)
        have h2 := h.setCells (w' := w.setCells p.blk off (a.eval y).cells.toList) (ty' := ty) (cs' := setAtA cs off vc) (vs := vs.take off ++ ((a.eval y).cells.toList ++ vs.drop (off + vc.length))) hj hp ho (setAtA_rel hr hry) (hbo.stays c5 hlen (by rw [hr.1]; exact c2)) q1 q2 q3 q4
          (by rw [q6, hlen]) q5
        have ht : Tr ok F ρ os s.m F ρ (os.set j (some (.cells (vs.take off ++ ((a.eval y).cells.toList ++ vs.drop (off + vc.length))).toArray ty (0, 0)))) (s.m.set j (.cells ty (setAtA cs off vc))) := by
          refine ⟨.refl F, Nat.le_refl _, fun i q o2 hk h1 h2 => ⟨h1, .inl ?_⟩, fun i ty2 l q h1 h2 => ⟨?_, q, h2, rfl⟩⟩
          · rw [List.getElem?_set, if_neg (fun e => by subst e; rw [c4] at hk; cases hk)]; exact h2
          · rw [List.getElem?_set]
            split
            · rename_i e1
              subst e1
              rw [if_pos (List.getElem?_eq_some_iff.1 hj).1]
              exact ⟨_, _, rfl⟩
            · exact ⟨_, _, h1⟩
        refine fin_skip (s := s) (s' := ⟨s.l, s.m.set j (.cells ty (setAtA cs off vc))⟩) h2 ht ?_ e2 hg
        unfold execOp; rw [hop]
        have hthere : ∀ i, i < (a.eval y).cells.toList.length → (w.cell? ⟨p.blk, off + 0 + i, none⟩).isSome = true := fun i hi => by
          rw [hlen] at hi
          have hi' : off + i < vs.length := by rw [hr.1]; omega
          rw [Nat.add_zero, cell_of_heap hblk (List.getElem?_eq_getElem hi')]; rfl
        have hfree : ∀ i, i < (a.eval y).cells.toList.length → w.frozen? ⟨p.blk, off + 0 + i, none⟩ = false := fun i _ => by
          unfold World.frozen?
          rw [hblk]
          simp
        have hst := run_storeCells_cells (P := P) p.blk off (a.eval y).cells.toList 0 w hthere hfree (hry.ones c3)
        have hsz : (a.eval y).cells.size = vc.length := by rw [← Array.length_toList]; exact hlen
        have hst2 : (storeCells ⟨p.blk, off, none⟩ (a.eval y).cells.toList).run P w = .ok () (w.setCells p.blk off (a.eval y).cells.toList) := hst
        simp only [hev, Instr.storeAt, Instr.sureAddr, storeVar, Sem.run_bind, Sem.run_pure, Result.andThen_ok, sizeB_run c1, hsz, ne_eq, not_true_eq_false, if_false, hst2]
      · cases e
    · cases e
  · cases e

/-- a string's bytes, a new slice -/
def bytesA (Y : Tys) (P : Program) (l : AEnv Y.T) : Op → Option (AV Y.T)
  | .convert t1 t2 x => match evA l x with
    | some (.v (.string q)) => bif isStrB P t1 && elemIs P t2 Y.byt && isU8B P Y.byt then some (.sl Y.byt (cast (congrArg List Y.isB.symm) q.data.toList)) else none
    | _ => none
  | _ => none
theorem castL_get {α β : Type} (h : α = β) (l : List α) (i : Nat) : (cast (congrArg List h) l)[i]? = (l[i]?).map (cast h) := by
  subst h
  show l[i]? = (l[i]?).map id
  simp
theorem castL_length {α β : Type} (h : α = β) (l : List α) : (cast (congrArg List h) l).length = l.length := by subst h; rfl
theorem bytesA_ok {x : AV Y.T} (hsz : Y.sz Y.byt = 1) (h : Cy hY N w0 F0 D H w F ρ os s a) (e : bytesA Y P s.l o.op = some x) (e2 : fin N o s x k = some r)
    (hg : Goes hY N w0 F0 D H ok F ρ os s.m k r K) : o.wp P a w K Q := by
  unfold bytesA at e
  split at e
  · rename_i t1 t2 x' hop
    split at e
    · rename_i q hx
      obtain ⟨hc, e⟩ := bif_some e
      cases e
      simp only [Bool.and_eq_true] at hc
      have e1 := (h.e.eval hx).v_inv
      have hT := elemB_under (elemIs_ok hc.1.2)
      have hrun := run_bytes_of_string (P := P) w t1 t2 Y.byt q (isStrB_ok hc.1.1) hT (isU8B_ok hc.2)
      have hcap := grownCap_ge w q.data.toList.length 0 Y.byt
      generalize hcc : grownCap w q.data.toList.length 0 Y.byt = cap at hcap
      have hqs : q.size = q.data.toList.length := rfl
      rw [hqs, hcc] at hrun
      have h1 := (h.st.drew 1).allocF (.cells (bytesRow q cap) Y.byt ((bytesRow q cap).size, (bytesRow q cap).size + 1))
      have hF : F w.heap.size = none := h.st.view.free (Nat.le_refl _)
      have hle := Heap.join_le_left F (Heap.one (w.drewN 1).heap.size (.cells (bytesRow q cap) Y.byt ((bytesRow q cap).size, (bytesRow q cap).size + 1)))
      have h2 : Cy hY N w0 F0 D H _ _ ρ os s a := ⟨h.e.mono hle (fun _ _ h => h), h.len, h.lon, fun k x p o a1 a2 a3 => (h.mem k x p o a1 a2 a3).mono hle (fun _ _ h => h), h1, h.fix, h.long⟩
      have hlen : (cast (congrArg List Y.isB.symm) q.data.toList).length = q.data.toList.length := castL_length Y.isB.symm _
      refine fin_ok (s := s) (u := .slice (some ⟨w.heap.size, 0, none⟩) (cast (congrArg List Y.isB.symm) q.data.toList).length cap) h2 ⟨hle, Nat.le_refl _, fun _ _ _ _ a1 a2 => ⟨a1, .inl a2⟩, fun _ ty l p a1 a2 => ⟨⟨ty, l, a1⟩, p, a2, rfl⟩⟩ ?_ ?_ e2 hg
      · unfold execOp; rw [hop]
        simp only [e1, Sem.run_bind, hrun, Result.andThen_ok, Sem.run_pure, pure_bind, hlen]
        rfl
      · refine .sl w.heap.size 0 (fun i => match q.data.toList[i]? with | some b => [.int .u8 (b.toNat : Int)] | none => []) (by rw [hlen]; exact hcap) (fun _ _ _ => rfl) (fun i x hx => ?_) (fun i x j av u hx h3 h4 => ?_)
        · rw [castL_get Y.isB.symm] at hx
          cases hb : q.data.toList[i]? with
          | none => rw [hb] at hx; cases hx
          | some b =>
            refine ⟨by simp [hsz], fun j v hj => ?_⟩
            simp only at hj
            cases j with
            | succ j => simp at hj
            | zero =>
              cases hj
              have hobj : (F.join (Heap.one (w.drewN 1).heap.size (.cells (bytesRow q cap) Y.byt ((bytesRow q cap).size, (bytesRow q cap).size + 1)))) w.heap.size = some (.cells (bytesRow q cap) Y.byt ((bytesRow q cap).size, (bytesRow q cap).size + 1)) :=
                Heap.join_right (Heap.apart_one.2 hF) (Heap.one_self _ _)
              refine ⟨_, _, _, hobj, ?_⟩
              obtain ⟨hi1, rfl⟩ := List.getElem?_eq_some_iff.1 hb
              have := bytesRow_at q cap i (by simpa using hi1)
              simpa [hsz] using this
        · rw [castL_get Y.isB.symm] at hx
          cases hb : q.data.toList[i]? with
          | none => rw [hb] at hx; cases hx
          | some b =>
            rw [hb] at hx
            simp only [Option.map_some, Option.some.injEq] at hx
            simp only [hb] at h4
            rw [hY.byte, ← hx] at h3
            have hcc2 : cast Y.isB (cast Y.isB.symm b) = b := by simp
            rw [hcc2] at h3
            cases j with
            | succ j => simp at h4
            | zero => simp at h3 h4; subst h3; subst h4; exact .v
    · cases e
  · cases e

def strAs (Y : Tys) (e : Nat) : AV Y.T → Option (List (Y.T e))
  | .v (.string q) => if h : e = Y.byt then some (h ▸ cast (congrArg List Y.isB.symm) q.data.toList) else none
  | _ => none
def newsOf (Y : Tys) (P : Program) (e t2 : Nat) (m : List (Mem Y.T)) (v : AV Y.T) : Option (List (Y.T e)) :=
  bif isStrB P t2 then strAs Y e v else (bif elemIs P t2 e then slAs e m v else none)
def appGo (Y : Tys) (P : Program) (ok : Nat → Bool) (e t2 : Nat) (v : AV Y.T) (k : Sy Y.T → AV Y.T → Option R) (s : Sy Y.T) (j : Nat) : Option R := match slAs e s.m (.own j), newsOf Y P e t2 s.m v with
  | some zs, some ys => bif ok j then Option.bind (room (zs.length + ys.length)) fun _ => k ⟨subEnv (keepSb Y.T (fun i => !(Nat.beq i j))) s.l, (s.m.map (Mem.sub (keepSb Y.T (fun i => !(Nat.beq i j))))).set j (.arr e (zs ++ ys))⟩ (.own j) else none
  | _, _ => none
/-- append: the state that it leads to, where there is room -/
def appA (Y : Tys) (P : Program) (ok : Nat → Bool) (s : Sy Y.T) (o : Op) (k : Sy Y.T → AV Y.T → Option R) : Option R := match o with
  | .call c => match c.callee, c.args.toList, c.argTypes.toList with
    | .builtin .append, [x, y], [t, t2] => match elemB P t with
      | some e => match P.info? e with
        | some i => bif infoB P e (Y.sz e) i.bytes && Nat.ble i.bytes 256 then (match evA s.l y, evA s.l x with
          | some v, some (.own j) => appGo Y P ok e t2 v k s j
          | some v, some (.v (.slice none 0 0)) => appGo Y P ok e t2 v k ⟨s.l, s.m ++ [.arr e []]⟩ s.m.length
          | _, _ => none) else none
        | none => none
      | none => none
    | _, _, _ => none
  | _ => none
end
end Go.Dn

