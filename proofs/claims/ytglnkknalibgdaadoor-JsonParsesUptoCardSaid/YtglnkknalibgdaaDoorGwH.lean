/- Slices of the call's own: handed on, read, written, made; bytes as strings. For any program. -/
import Derived.Test.YtglnkknalibgdaaDoorGwG
set_option linter.unusedVariables false
set_option linter.unusedSimpArgs false
set_option linter.unnecessarySimpa false
namespace Go.Gw
open Go.RowKit
set_option linter.unusedSimpArgs false

section
variable {P : Program} {N : Nat} {w0 : World} {F0 : Heap} {D : Own} {w : World} {F : Heap} {L : List SP} {B B' : List (Option Box)} {ρ : Nat → Nat} {l : Env} {a : Act} {o : Oper} {ops : Array Oper} {lit : List Nat} {rest : List Oper} {Q : Exit → Act → World → Prop}

theorem boxes_erase (ρ : Nat → Nat) (B : List (Option Box)) (L : List SP) (i : Nat) : (boxes ρ 0 B ++ L).eraseIdx (B.length + i) = boxes ρ 0 B ++ L.eraseIdx i := by
  rw [List.eraseIdx_append_of_length_le (by rw [boxes_length]; omega), boxes_length, Nat.add_sub_cancel_left]

theorem acc_row {α : Type} {d : Kind α} {b c : Nat} {cells : Array Value} {e : TypeId} {xs : List α} (F : Heap) (hF : F b = none) (hrow : rowIs F d cells.toList xs) :
    Row (F.join (Heap.one b (.cells cells e (0, 0)))) d (some ⟨b, 0, none⟩) xs := by
  refine .inr ⟨b, 0, rfl, fun i x hx => ?_⟩
  obtain ⟨cs, h1, h2⟩ := hrow i x hx
  refine ⟨cs, d.mono (Heap.join_le_left _ _) h1, fun j v hj => ⟨cells, e, (0, 0), Heap.join_right (Heap.apart_one.2 hF) (Heap.one_self _ _), ?_⟩⟩
  have := h2 j v hj
  rw [Nat.zero_add, ← Array.getElem?_toList]; exact this

/-- a slice of the call's own is from now on read alone -/
theorem Cx.freeze {α : Type} {d : Kind α} {e : TypeId} {i t : Nat} {A : Option Addr} {c : Nat} {xs : List α} (h : Cx N w0 F0 D w F L B ρ l a) (hL : L[i]? = some (accP e d A c xs)) (hs : look l t = some (.v (.slice A xs.length c))) :
    ∃ F', Cx N w0 F0 D w F' (L.eraseIdx i) B ρ ((t, SV.sl d xs A c) :: l) a := by
  have hi' := boxes_get ρ B L hL
  obtain ⟨q, ha, hsub, hap, hd⟩ := h.st.own
  obtain ⟨g0, k0, hacc0, _, rfl, _, _⟩ := all_at hi' ha
  obtain ⟨g, hacc, hFg, hst⟩ := h.st.freezeAt hi' (fun g hg hgs b o e1 => by
    have : g = g0 := accP_one hg hgs hacc0 hsub.of_join_left
    subst this
    exact hd b o (Heap.join_left e1))
  rw [boxes_erase] at hst
  refine ⟨_, (h.world (Heap.join_le_left _ _) hst).retell hs rfl ?_ rfl⟩
  rcases hacc with ⟨rfl, rfl, rfl, rfl⟩ | ⟨b, cells, rfl, rfl, h1, _, _, h2⟩
  · exact sl_nil d _
  · exact ⟨h1, acc_row (c := c) F (Heap.apart_one.1 hFg) h2⟩

/-- a box is taken out of the boxes -/
theorem Cx.take_box (h : Cx N w0 F0 D w F L B ρ l a) {k : Nat} {b : Box} (hk : B[k]? = some (some b)) {A : SP} (hAF : A.holds F (Heap.one (ρ k) (.cells (SV.dens ρ b.cells).toArray b.ty (0, 0)))) :
    Cx N w0 F0 D w F (A :: L) (B.set k none) ρ l a := by
  have h1 := boxes_at ρ B 0 k (some b) hk
  rw [Nat.zero_add] at h1
  have hlt : k < (boxes ρ 0 B).length := (List.getElem?_eq_some_iff.1 h1).1
  obtain ⟨x, ha, hs, hf, hd⟩ := h.st.own
  obtain ⟨g, k1, a1, a2, c, rfl⟩ := all_append.1 ha
  obtain ⟨g2, k2, e1, c2, rfl, ae, put⟩ := all_at h1 a1
  have e1 : g2 = Heap.one (ρ k) (.cells (SV.dens ρ b.cells).toArray b.ty (0, 0)) := e1
  subst e1
  obtain ⟨c3, c4⟩ := Heap.apart_join.1 c
  have hB' : all F (boxes ρ 0 (B.set k none)) k2 := by
    rw [boxes_set, Nat.zero_add]
    have := put (A' := emp) (g' := Heap.nil) (.refl F) rfl ae (Heap.nil_apart _)
    exact this
  have hj : ((Heap.one (ρ k) (.cells (SV.dens ρ b.cells).toArray b.ty (0, 0))).join k2).join k1 = k2.join ((Heap.one (ρ k) (.cells (SV.dens ρ b.cells).toArray b.ty (0, 0))).join k1) := by
    rw [Heap.join_comm c2, Heap.join_assoc]
  refine ⟨h.size, h.nodef, h.env, fun t s e => by rw [List.length_set]; exact h.good t s e, fun b' hb' => ?_, by rw [List.length_set]; exact h.fix, h.st.os, h.st.tape, h.st.output, h.st.size, h.st.frame, h.st.le, h.st.new, h.st.view,
    k2.join ((Heap.one (ρ k) (.cells (SV.dens ρ b.cells).toArray b.ty (0, 0))).join k1), all_append.2 ⟨k2, _, hB', ⟨_, k1, hAF, a2, c3, rfl⟩, Heap.apart_join'.2 ⟨c2.symm, c4⟩, rfl⟩, by rw [← hj]; exact hs, by rw [← hj]; exact hf, by rw [← hj]; exact hd⟩
  rw [List.length_set]
  rcases List.mem_or_eq_of_mem_set hb' with h2 | h2
  · exact h.bgood b' h2
  · cases h2

theorem strOf_bytes (xs : Str) : strOfNums (xs.map fun b => (b.toNat : Int)) = ⟨⟨xs⟩⟩ := by
  unfold strOfNums
  congr 1
  simp [Function.comp_def]

/-- bytes that are read alone, as a string -/
theorem Cx.strSl {T T2 e : TypeId} {x : Operand} {xs : Str} {A : Option Addr} {c : Nat} (h : Cx N w0 F0 D w F L B ρ l a) (hg : gd ops lit [] l o.guard = some .yes) (hd : fitsB N o.dst = true)
    (hop : o.op = .convert T T2 x) (hT : elemB P T = some e) (he : P.underlying e = some (.int .u8)) (hT2 : P.underlying T2 = some .string) (hx : ov l x = some (SV.sl kByte xs A c))
    (hK : ∀ a', Cx N w0 F0 D w F L B ρ (after l o.dst (.v (.string ⟨⟨xs⟩⟩))) a' → wpList P ops Q rest a' w) : wpList P ops Q (o :: rest) a w := by
  refine h.oneOp hg hd (s := .v (.string ⟨⟨xs⟩⟩)) (ρ' := ρ) ?_ h trivial rfl hK
  have e1 : a.eval x = .slice A xs.length c := h.eval hx
  obtain ⟨_, hrow⟩ : xs.length ≤ c ∧ Row F kByte A xs := (h.ogood hx).1
  unfold execOp
  rw [hop]
  rcases hrow with rfl | ⟨b, off, rfl, hcells⟩
  · have hl : (loadCells (A.getD default) 0).run P w = .ok #[] w := by simp [loadCells, loadCellsFrom]
    cases A with
    | none =>
      have := run_convert_bytes_nil (P := P) w T e (elemB_under hT) he 0 c T2 hT2
      simp only [e1, Sem.run_bind, List.length_nil, this, Result.andThen_ok, Sem.run_pure, SV.den]
      rfl
    | some ad =>
      have := run_convert_bytes_string (P := P) w T T2 e (some ad) 0 c (elemB_under hT) he hT2
      simp only [e1, Sem.run_bind, List.length_nil, this]
      simp [Conv.bytesToString, loadCells, loadCellsFrom, SV.den]
      rfl
  · have := run_convert_bytes_arg (P := P) w T e (elemB_under hT) he b off xs.length c (xs.map fun b => (b.toNat : Int)) (by simp) (fun i hi => by
      obtain ⟨cs, h1, h2⟩ := hcells i xs[i] (List.getElem?_eq_getElem hi)
      have h1 : cs = [.int .u8 (xs[i].toNat : Int)] := h1
      subst h1
      have := cellF_read h.st.view (h2 0 _ rfl)
      simp only [kByte, Nat.mul_one, Nat.add_zero] at this
      rw [this]
      simp [List.getD, hi]) T2 hT2
    simp only [e1, Sem.run_bind, this, Result.andThen_ok, Sem.run_pure, SV.den, strOf_bytes]

def setI {α : Type} (xs : List α) (n : Int) (v : α) : List α := xs.set n.toNat v
/-- that element written -/
theorem Cx.accStore {α : Type} {d : Kind α} {T e : TypeId} {x z : Operand} {i b : Nat} {xs : List α} {c : Nat} {n : Int} {v u : α} {y : d.Y} {s : SV} (h : Cx N w0 F0 D w F L B ρ l a) (hg : gd ops lit [] l o.guard = some .yes) (hd : o.dst = none) (hL : L[i]? = some (accP e d (some ⟨b, 0, none⟩) c xs))
    (hop : o.op = .store T x z) (hs : sizeB P T = some d.sz) (hx : ov l x = some (.v (.pointer (some ⟨b, n.toNat * d.sz, none⟩)))) (hz : ov l z = some s) (hsc : s.cells = some (d.f u y)) (hpl : ∃ vs, SV.plains (d.f u y) = some vs) (hv : getI xs n = some v)
    (hK : ∀ w' a', Cx N w0 F0 D w' F (L.set i (accP e d (some ⟨b, 0, none⟩) c (setI xs n u))) B ρ l a' → wpList P ops Q rest a' w') : wpList P ops Q (o :: rest) a w := by
  have e1 : a.eval x = .pointer (some ⟨b, n.toNat * d.sz, none⟩) := h.eval hx
  have e2 := h.eval hz
  have hi' := boxes_get ρ B L hL
  obtain ⟨q, ha, hs', _, _⟩ := h.st.own
  obtain ⟨g1, kk, hacc, _, rfl, _, _⟩ := all_at hi' ha
  have hsub : g1.Sub w := hs'.of_join_left
  obtain ⟨vs, hvs⟩ := hpl
  have hden := SV.plains_dens ρ hvs
  have hcells := SV.cells_den ρ hsc
  rw [hden] at hcells
  have hok := SV.cells_ok hsc (h.ogood hz).1 (h.ogood hz).2
  have hvl : vs.length = d.sz := by rw [plains_length hvs, d.len]
  have hone : ∀ r ∈ vs, r.oneCell' = true := by rw [← hden]; exact SV.ones_dens ρ (d.ones u y)
  unfold getI at hv
  split at hv
  · have hlt := (List.getElem?_eq_some_iff.1 hv).1
    have hacc' := hacc
    rcases hacc with ⟨h1, _⟩ | ⟨b', cells, h1, rfl, hxc, hcm, hsz, hrow⟩
    · cases h1
    · cases h1
      have hblk : w.heap[b]? = some (.cells cells e (0, 0)) := hsub.out b _ (Heap.one_self _ _)
      have hfit : n.toNat * d.sz + vs.length ≤ cells.size := by
        rw [hvl, hsz]
        have : (n.toNat + 1) * d.sz ≤ c * d.sz := Nat.mul_le_mul_right _ (by omega)
        rw [Nat.add_mul, Nat.one_mul] at this
        exact this
      have hst := run_storeCells_cells (P := P) b (n.toNat * d.sz) vs 0 w (fun j hj => by
        have : n.toNat * d.sz + j < cells.size := by omega
        unfold World.cell?
        rw [hblk]
        simp [this]) (fun j hj => by unfold World.frozen?; rw [hblk]; simp) hone
      rw [Nat.add_zero] at hst
      obtain ⟨q1, q2, q3, q4, q5⟩ := setCells_os b vs (n.toNat * d.sz) w
      have q6 := setCells_block b vs (n.toNat * d.sz) w cells hblk hfit
      have hcl : cells.toList.length = cells.size := Array.length_toList
      have hnew : (accP e d (some ⟨b, 0, none⟩) c (setI xs n u)).holds F (Heap.one b (.cells (cells.toList.take (n.toNat * d.sz) ++ (vs ++ cells.toList.drop (n.toNat * d.sz + vs.length))).toArray e (0, 0))) := by
        refine .inr ⟨b, _, rfl, rfl, by unfold setI; rw [List.length_set]; exact hxc, hcm, ?_, fun k r hr => ?_⟩
        · rw [List.size_toArray, List.length_append, List.length_append, List.length_drop, List.length_take, hcl]; omega
        · unfold setI at hr
          rw [List.getElem?_set] at hr
          have hget : ∀ q r, (cells.toList.take (n.toNat * d.sz) ++ (vs ++ cells.toList.drop (n.toNat * d.sz + vs.length)))[q]? = some r ↔ (if q < n.toNat * d.sz then cells.toList[q]? else if q < n.toNat * d.sz + vs.length then vs[q - n.toNat * d.sz]? else cells.toList[q]?) = some r := by
            intro q r
            have hlt1 : (cells.toList.take (n.toNat * d.sz)).length = n.toNat * d.sz := by rw [List.length_take, hcl]; omega
            by_cases g1 : q < n.toNat * d.sz
            · rw [if_pos g1, List.getElem?_append_left (by rw [hlt1]; exact g1), List.getElem?_take, if_pos g1]
            · rw [if_neg g1, List.getElem?_append_right (by rw [hlt1]; omega), hlt1]
              by_cases g2 : q < n.toNat * d.sz + vs.length
              · rw [if_pos g2, List.getElem?_append_left (by omega)]
              · rw [if_neg g2, List.getElem?_append_right (by omega), List.getElem?_drop, show n.toNat * d.sz + vs.length + (q - n.toNat * d.sz - vs.length) = q by omega]
          split at hr
          · rename_i hk
            subst hk
            cases hr
            refine ⟨vs, d.shut hvs hok.1, fun j r hj => ?_⟩
            have hj' := (List.getElem?_eq_some_iff.1 hj).1
            refine (hget _ _).2 ?_
            rw [if_neg (by omega), if_pos (by omega), show n.toNat * d.sz + j - n.toNat * d.sz = j by omega]
            exact hj
          · rename_i hk
            obtain ⟨cs, c1, c2⟩ := hrow k r hr
            refine ⟨cs, c1, fun j r' hj => (hget _ _).2 ?_⟩
            have hj' := (List.getElem?_eq_some_iff.1 hj).1
            rw [d.length c1] at hj'
            rcases Nat.lt_or_gt_of_ne hk with g1 | g1
            · have : (n.toNat + 1) * d.sz ≤ k * d.sz := Nat.mul_le_mul_right _ g1
              rw [Nat.add_mul, Nat.one_mul] at this
              rw [if_neg (by omega), if_neg (by omega)]
              exact c2 j r' hj
            · have : (k + 1) * d.sz ≤ n.toNat * d.sz := Nat.mul_le_mul_right _ g1
              rw [Nat.add_mul, Nat.one_mul] at this
              rw [if_pos (by omega)]
              exact c2 j r' hj
      have hfin := h.st.replace (A1 := accP e d (some ⟨b, 0, none⟩) c (setI xs n u)) hi' (w' := w.setCells b (n.toNat * d.sz) vs) (fun g0 hg0 hs0 => by
        have : g0 = Heap.one b (.cells cells e (0, 0)) := accP_one hg0 hs0 hacc' hsub
        subst this
        exact ⟨q1, q2, q3, by rw [q4]; exact Nat.le_refl _, fun x hx hgx => q5 x (fun e' => by subst e'; rw [Heap.one_self] at hgx; cases hgx), _, hnew, ⟨fun y' o' e' => by obtain ⟨rfl, rfl⟩ := Heap.one_some e'; exact q6⟩, fun y' o' e' => by obtain ⟨rfl, rfl⟩ := Heap.one_some e'; exact .inl (by rw [Heap.one_self]; simp)⟩)
      rw [boxes_setL] at hfin
      refine wpList_go (gd_ok (Lx.start h) hg) (wp_of_skip (w' := w.setCells b (n.toNat * d.sz) vs) ?_ (hK _ _ (by rw [hd]; exact ⟨h.size, h.nodef, h.env, h.good, h.bgood, h.fix, hfin⟩)))
      have hsz2 : (s.den ρ).cells.size = d.sz := by rw [← Array.length_toList, hcells, hvl]
      unfold execOp; rw [hop]
      simp only [e1, e2, Instr.storeAt, Instr.sureAddr, storeVar, Sem.run_bind, Sem.run_pure, Result.andThen_ok, sizeB_run hs, hsz2, ne_eq, not_true_eq_false, if_false, hcells, hst]
  · cases hv
end
end Go.Gw

