/- slices.Insert into a slice of strings of one's own: in place, or into a new row. -/
import Derived.Test.YtilkjloabkgpaaaGreatDoorT07z
import Derived.Shelf.Spec.SlicesInsert
import Derived.Shelf.Spec.SlicesInsertGrow
set_option linter.unusedVariables false
set_option linter.unusedSimpArgs false
set_option linter.unnecessarySimpa false
namespace Go.D07
open Go Go.Gw Go.Dn Go.RowKit Go.Proofs Go.Shelf Go.Lib
set_option linter.unusedSimpArgs false
set_option maxRecDepth 100000

def insRen : Go.Shelf.Ren := ⟨fun | 17 => 128 | 22 => 62 | 29 => 92 | 30 => 93 | 36 => 114 | n => n, fun | 24 => 22 | n => n, fun | n => n⟩
theorem insLays : Lays2.n22 Tryz.prog insRen := {
  mixed := by kernel_rfl
  f17 := Tryz.func128.trans (congrArg some (by kernel_rfl))
  f22 := Tryz.func62.trans (congrArg some (by kernel_rfl))
  f29 := Tryz.func92.trans (congrArg some (by kernel_rfl))
  f30 := Tryz.func93.trans (congrArg some (by kernel_rfl))
  f36 := Tryz.func114.trans (congrArg some (by kernel_rfl))
  t0 := Tryz.underlying0, a0 := Tryz.isAgg0, z0 := Tryz.sizeOf0, v0 := Tryz.zeroValue0
  t3 := Tryz.underlying3, a3 := Tryz.isAgg3, z3 := Tryz.sizeOf3, v3 := Tryz.zeroValue3
  t4 := Tryz.underlying4, a4 := Tryz.isAgg4, z4 := Tryz.sizeOf4, v4 := Tryz.zeroValue4
  t9 := Tryz.underlying9, a9 := Tryz.isAgg9, z9 := Tryz.sizeOf9, v9 := Tryz.zeroValue9
  t24 := Tryz.underlying22, a24 := Tryz.isAgg22, z24 := Tryz.sizeOf22, v24 := Tryz.zeroValue22
  i9 := by kernel_rfl }

theorem row9 {F : Heap} {cells : List Value} {xs : List Str} (h : rowIs F (kR hY 9) cells (show List (Y.T 9) from xs)) (i : Nat) (x : Str) (hx : xs[i]? = some x) : cells[i]? = some (.string ⟨⟨x⟩⟩) := by
  obtain ⟨cs, h1, h2⟩ := h i x hx
  have h1 : Rels Y F [] [.v (.string ⟨⟨x⟩⟩)] cs := h1
  obtain ⟨u, r, rfl, hu, _⟩ := h1.inv
  have := h2 0 u rfl
  rw [hu.v_inv] at this
  have e : i * (kR hY 9).sz + 0 = i := by show i * 1 + 0 = i; omega
  rwa [e] at this
theorem row9_mk {F : Heap} {cells : List Value} {xs : List Str} (h : ∀ (i : Nat) (x : Str), xs[i]? = some x → cells[i]? = some (.string ⟨⟨x⟩⟩)) : rowIs F (kR hY 9) cells (show List (Y.T 9) from xs) := fun i x hx =>
  ⟨[.string ⟨⟨x⟩⟩], (Rels.cons .v Rels.nil : Rels Y F [] [.v (.string ⟨⟨x⟩⟩)] [.string ⟨⟨x⟩⟩]), fun j v hj => by
    cases j with
    | zero =>
      cases hj
      have e : i * (kR hY 9).sz + 0 = i := by show i * 1 + 0 = i; omega
      rw [e]; exact h i x hx
    | succ j => simp at hj⟩
def strV (l : List Str) : List Value := l.map fun s => .string ⟨⟨s⟩⟩
theorem strV_len (l : List Str) : (strV l).length = l.length := by simp [strV]
theorem strV_one (l : List Str) : ∀ v ∈ strV l, v.oneCell' = true := fun v h => by
  obtain ⟨s, _, rfl⟩ := List.mem_map.1 h; rfl
theorem strV_get {cells : List Value} {xs : List Str} (h : ∀ (i : Nat) (x : Str), xs[i]? = some x → cells[i]? = some (.string ⟨⟨x⟩⟩)) (j : Nat) (v : Value) (hj : (strV xs)[j]? = some v) : cells[j]? = some v := by
  unfold strV at hj
  rw [List.getElem?_map] at hj
  cases hx : xs[j]? with
  | none => rw [hx] at hj; cases hj
  | some x => rw [hx] at hj; cases hj; exact h j x hx
theorem cell_at {w : World} {b : Nat} {ca : Array Value} {t : TypeId} (h : w.heap[b]? = some (.cells ca t (0, 0))) (j : Nat) : w.cell? ⟨b, 0 + j, none⟩ = ca.toList[j]? := by
  simp [World.cell?, h]
theorem frozen_at {w : World} {b : Nat} {ca : Array Value} {t : TypeId} (h : w.heap[b]? = some (.cells ca t (0, 0))) (j : Nat) : w.frozen? ⟨b, j, none⟩ = false := by
  simp [World.frozen?, h]
theorem shape_at {w : World} {b : Nat} {ca : Array Value} {t : TypeId} (h : w.heap[b]? = some (.cells ca t (0, 0))) : w.shape? b = some (t, ca.size) := by
  simp [World.shape?, h]
theorem apart2 {w0 w : World} {F0 F : Heap} {D : Own} {b b' : Nat} {o o' : Obj} (h : Gw.St w0 F0 D w F [pt b o, pt b' o']) : b' ≠ b := by
  obtain ⟨x, ⟨g, k, hg, ⟨g2, k2, hg2, _, _, rfl⟩, hap, _⟩, _⟩ := h.own
  have hg : g = Heap.one b o := hg
  have hg2 : g2 = Heap.one b' o' := hg2
  subst hg; subst hg2
  intro e
  subst e
  have h1 := (Heap.apart_join'.1 hap).1
  have h2 := Heap.apart_one.1 h1
  rw [Heap.one_self] at h2
  cases h2
theorem ins_list (l v : List Str) (i : Nat) (hi : i ≤ l.length) (rest : List Value) (cells : List Value) (h : ∀ (j : Nat) (x : Str), l[j]? = some x → cells[j]? = some (.string ⟨⟨x⟩⟩)) :
    ∀ (j : Nat) (x : Str), (l.take i ++ (v ++ l.drop i))[j]? = some x → (cells.take i ++ (strV v ++ (strV (l.drop i) ++ rest)))[j]? = some (.string ⟨⟨x⟩⟩) := by
  intro j x hj
  have hc : i ≤ cells.length := by
    rcases Nat.eq_zero_or_pos i with h0 | h0
    · omega
    · have h1 : l[i - 1]? = some l[i - 1] := List.getElem?_eq_getElem (by omega)
      have := (List.getElem?_eq_some_iff.1 (h _ _ h1)).1
      omega
  have e1 : (l.take i).length = i := by simp; omega
  have e2 : (cells.take i).length = i := by simp; omega
  by_cases hlt : j < i
  · rw [List.getElem?_append_left (by omega), List.getElem?_take, if_pos hlt] at hj
    rw [List.getElem?_append_left (by omega), List.getElem?_take, if_pos hlt]
    exact h j x hj
  · rw [List.getElem?_append_right (by omega), e1] at hj
    rw [List.getElem?_append_right (by omega), e2]
    have key : ∀ (q : List Str) (r : List Value) (k : Nat) (y : Str), q[k]? = some y → (strV q ++ r)[k]? = some (.string ⟨⟨y⟩⟩) := fun q r k y hk => by
      have := (List.getElem?_eq_some_iff.1 hk).1
      rw [List.getElem?_append_left (by rw [strV_len]; exact this)]
      simp [strV, hk]
    have := key (v ++ l.drop i) rest (j - i) x hj
    simpa [strV, List.append_assoc] using this
/-- a row of one's own is written over at two places -/
theorem two_sets {w : World} {b : Nat} {ca : Array Value} {t : TypeId} (h : w.heap[b]? = some (.cells ca t (0, 0))) (i m : Nat) (vs ds : List Value) (hm : vs.length = m) (hfit : i + m + ds.length ≤ ca.size) :
    ∃ cs : Array Value, cs.toList = ca.toList.take i ++ (vs ++ (ds ++ ca.toList.drop (i + m + ds.length))) ∧ ((w.setCells b (i + m) ds).setCells b i vs).heap[b]? = some (.cells cs t (0, 0)) ∧ cs.size = ca.size := by
  have h1 := setCells_block b ds (i + m) w ca h hfit
  have hl : (ca.toList.take (i + m) ++ (ds ++ ca.toList.drop (i + m + ds.length))).toArray.size = ca.size := by simp; omega
  have h2 := setCells_block b vs i (w.setCells b (i + m) ds) _ h1 (by rw [hl]; omega)
  refine ⟨_, ?_, h2, by simp; omega⟩
  simp only [List.toList_toArray]
  have e1 : (ca.toList.take (i + m) ++ (ds ++ ca.toList.drop (i + m + ds.length))).take i = ca.toList.take i := by
    rw [List.take_append_of_le_length (by simp; omega), List.take_take, Nat.min_eq_left (by omega)]
  have e2 : (ca.toList.take (i + m) ++ (ds ++ ca.toList.drop (i + m + ds.length))).drop (i + vs.length) = ds ++ ca.toList.drop (i + m + ds.length) := by
    rw [hm, List.drop_append, List.drop_of_length_le (by simp; omega)]
    have : i + m - (ca.toList.take (i + m)).length = 0 := by simp; omega
    rw [this]; simp
  rw [e1, e2]
theorem two_sets' {w : World} {b : Nat} {ca : Array Value} {t : TypeId} (h : w.heap[b]? = some (.cells ca t (0, 0))) (i m : Nat) (vs ds : List Value) (hm : vs.length = m) (hfit : i + m + ds.length ≤ ca.size) :
    ∃ cs : Array Value, cs.toList = ca.toList.take i ++ (vs ++ (ds ++ ca.toList.drop (i + m + ds.length))) ∧ (((w.setCells b i vs).drew).setCells b (i + m) ds).heap[b]? = some (.cells cs t (0, 0)) ∧ cs.size = ca.size := by
  have h1 : ((w.setCells b i vs).drew).heap[b]? = _ := setCells_block b vs i w ca h (by omega)
  have hl : (ca.toList.take i ++ (vs ++ ca.toList.drop (i + vs.length))).toArray.size = ca.size := by simp; omega
  have h2 := setCells_block b ds (i + m) ((w.setCells b i vs).drew) _ h1 (by rw [hl]; omega)
  refine ⟨_, ?_, h2, by simp; omega⟩
  simp only [List.toList_toArray]
  have e0 : ca.toList.take i ++ (vs ++ ca.toList.drop (i + vs.length)) = (ca.toList.take i ++ vs) ++ ca.toList.drop (i + m) := by rw [hm, List.append_assoc]
  have e3 : (ca.toList.take i ++ vs).length = i + m := by simp; omega
  rw [e0, List.take_append_of_le_length (by omega), List.take_of_length_le (by omega), List.drop_append, List.drop_of_length_le (by omega), e3]
  have : i + m + ds.length - (i + m) = ds.length := by omega
  rw [this, List.drop_drop]
  simp
theorem ins_calls (w : World) (F : Heap) (D : Own) (ρ : List Pl) (pa pv : Pl) (oa ov : Option Obj) (l v : List Str) (i : Nat) (hi : i < l.length) (hv : 0 < v.length) (hbig : (l.length + v.length) * 16 ≤ 140737488355328)
    (ha : MemRel hY F ρ (.arr 9 (show List (Y.T 9) from l)) pa oa) (hb : MemRel hY F ρ (.arr 9 (show List (Y.T 9) from v)) pv ov) (hst : Gw.St w F D w F (pts [pa, pv] [oa, ov])) :
    Calls Tryz.prog 62 #[.slice pa.A pa.n pa.c, .int .i64 i, .slice pv.A pv.n pv.c] w fun e w' => ∃ pa' oa', e = .returned (.slice pa'.A pa'.n pa'.c) ∧
      (∀ ρ', MemRel hY F ρ' (.arr 9 (show List (Y.T 9) from l.take i ++ (v ++ l.drop i))) pa' oa') ∧ Gw.St w F D w' F (pts [pa', pv] [oa', ov]) := by
  obtain ⟨na, ha⟩ := ha
  obtain ⟨nv, hb⟩ := hb
  rcases ha with ⟨_, _, hnil, _⟩ | ⟨ca, Aa, rfl, a1, a2, a3, a4⟩
  · exfalso; have : l = [] := hnil; rw [this] at hi; simp at hi
  rcases hb with ⟨_, _, hnil, _⟩ | ⟨cv, Av, rfl, b1, b2, b3, b4⟩
  · exfalso; have : v = [] := hnil; rw [this] at hv; simp at hv
  have hst : Gw.St w F D w F [pt pa.blk (.cells ca 9 (0, 0)), pt pv.blk (.cells cv 9 (0, 0))] := hst
  have hba := hst.block (i := 0) rfl
  have hbv := hst.block (i := 1) rfl
  have hne := apart2 hst
  have na : pa.n = l.length := na
  have nv : pv.n = v.length := nv
  have a1 : l.length ≤ pa.c := a1
  have b1 : v.length ≤ pv.c := b1
  have a3 : ca.size = pa.c := by have : ca.size = pa.c * 1 := a3; omega
  have b3 : cv.size = pv.c := by have : cv.size = pv.c * 1 := b3; omega
  rw [maxLen_eq] at a2
  have ra := row9 a4
  have rv := row9 b4
  have hcs : ∀ j u, (strV l)[j]? = some u → w.cell? ⟨pa.blk, 0 + j, none⟩ = some u := fun j u hj => by rw [cell_at hba]; exact strV_get ra j u hj
  have hvs : ∀ j u, (strV v)[j]? = some u → w.cell? ⟨pv.blk, 0 + j, none⟩ = some u := fun j u hj => by rw [cell_at hbv]; exact strV_get rv j u hj
  rw [na, nv, Aa, Av]
  have hdl : ((strV l).drop i).length = l.length - i := by rw [List.length_drop, strV_len]
  have hde : (strV l).drop i = strV (l.drop i) := by simp [strV, List.map_drop]
  by_cases hroom : l.length + v.length ≤ pa.c
  · have hc := Any2.slices_Insert_string_shift insLays pa.blk 0 l.length pa.c i pv.blk 0 v.length pv.c (strV l) (strV v) w hi hv hroom (by omega) hne (strV_len l) (strV_len v) hcs
      (fun j hj => by rw [cell_at hba, List.getElem?_eq_getElem (by simp; omega)]; rfl) (fun j hj => frozen_at hba _) hvs (strV_one l) (strV_one v) 9 9 cv.size ca.size (shape_at hbv) (shape_at hba) (by omega) (frozen_at hbv _) (frozen_at hbv _)
    refine hc.mono fun e w' h => ?_
    obtain ⟨rfl, rfl⟩ := h
    rw [Nat.zero_add, Nat.zero_add]
    have hbd : w.drew.heap[pa.blk]? = some (.cells ca 9 (0, 0)) := hba
    obtain ⟨cs, c1, c2, c3⟩ := two_sets hbd i v.length (strV v) ((strV l).drop i) (strV_len v) (by omega)
    obtain ⟨q1, q2, q3, q4, q5⟩ := setCells_os pa.blk ((strV l).drop i) (i + v.length) w.drew
    obtain ⟨p1, p2, p3, p4, p5⟩ := setCells_os pa.blk (strV v) i (w.drew.setCells pa.blk (i + v.length) ((strV l).drop i))
    have hs := (hst.drew 1).write (i := 0) rfl (w' := (w.drew.setCells pa.blk (i + v.length) ((strV l).drop i)).setCells pa.blk i (strV v)) (p1.trans q1) (p2.trans q2) (p3.trans q3) (p4.trans q4) c2 (fun x hx => (p5 x hx).trans (q5 x hx))
    refine ⟨⟨pa.blk, some ⟨pa.blk, 0, none⟩, l.length + v.length, pa.c⟩, some (.cells cs 9 (0, 0)), rfl, fun ρ' => ⟨?_, .inr ⟨cs, rfl, rfl, ?_, ?_, ?_, ?_⟩⟩, hs⟩
    · show l.length + v.length = (l.take i ++ (v ++ l.drop i)).length
      simp; omega
    · show (l.take i ++ (v ++ l.drop i)).length ≤ pa.c
      simp; omega
    · rw [maxLen_eq]; omega
    · show cs.size = pa.c * 1
      omega
    · refine row9_mk ?_
      rw [c1, hde]
      exact ins_list l v i (by omega) _ ca.toList ra
  · have hc := Any2.slices_Insert_string_grow insLays pa.blk 0 l.length pa.c i pv.blk 0 v.length pv.c (strV l) (strV v) w hi hv a1 (by omega) hbig (strV_len l) (strV_len v) hcs hvs (strV_one l) (strV_one v)
    refine hc.mono fun e w' h => ?_
    obtain ⟨rfl, rfl⟩ := h
    have hcg := grownCap_ge w (l.length + v.length) pa.c (insRen.t 9)
    have hcm := grownCap_le_maxLen w (l.length + v.length) pa.c (insRen.t 9) (by rw [maxLen_eq]; omega)
    rw [maxLen_eq] at hcm
    generalize grownCap w (l.length + v.length) pa.c (insRen.t 9) = cap at hcg hcm ⊢
    obtain ⟨A0, hA⟩ : ∃ A0, A0 = ((strV l).take i).toArray ++ Builtin.zeroCells (Value.string ⟨#[]⟩).cells (l.length + v.length - i) ++ Builtin.zeroCells (Value.string ⟨#[]⟩).cells (cap - (l.length + v.length)) := ⟨_, rfl⟩
    rw [← hA]
    have hA1 : A0.size = cap := by
      rw [hA]
      simp only [Array.size_append, size_zeroCells, List.size_toArray, List.length_take, strV_len]
      have : (Value.string ⟨#[]⟩).cells.size = 1 := rfl
      rw [this]; omega
    have hA2 : A0.toList.take i = (strV l).take i := by
      rw [hA]
      simp only [Array.toList_append, List.append_assoc]
      rw [List.take_append_of_le_length (by simp [strV_len]; omega)]
      rw [List.take_take, Nat.min_self]
    have hs1 := (hst.alloc (.cells A0 9)).drew 1
    have hbn : ((w.alloc (.cells A0 9)).drewN 1).heap[w.heap.size]? = some (.cells A0 9 (0, 0)) := hs1.block (i := 0) rfl
    obtain ⟨cs, c1, c2, c3⟩ := two_sets' hbn i v.length (strV v) ((strV l).drop i) (strV_len v) (by omega)
    obtain ⟨q1, q2, q3, q4, q5⟩ := setCells_os w.heap.size (strV v) i ((w.alloc (.cells A0 9)).drewN 1)
    obtain ⟨p1, p2, p3, p4, p5⟩ := setCells_os w.heap.size ((strV l).drop i) (i + v.length) (((w.alloc (.cells A0 9)).drewN 1).setCells w.heap.size i (strV v)).drew
    have hs := hs1.write (i := 0) rfl (w' := ((((w.alloc (.cells A0 9)).drewN 1).setCells w.heap.size i (strV v)).drew).setCells w.heap.size (i + v.length) ((strV l).drop i)) (p1.trans q1) (p2.trans q2) (p3.trans q3) (p4.trans q4) c2 (fun x hx => (p5 x hx).trans (q5 x hx))
    have hs2 : Gw.St w F D (((((w.alloc (.cells A0 9)).drewN 1).setCells w.heap.size i (strV v)).drew).setCells w.heap.size (i + v.length) ((strV l).drop i)) F [pt w.heap.size (.cells cs 9 (0, 0)), pt pv.blk (.cells cv 9 (0, 0))] := by
      have h1 : Gw.St _ F D _ F ([pt w.heap.size (.cells cs 9 (0, 0))] ++ [pt pa.blk (.cells ca 9 (0, 0)), pt pv.blk (.cells cv 9 (0, 0))]) := hs
      have h2 := h1.swap
      have h3 : Gw.St _ F D _ F ([pt pv.blk (.cells cv 9 (0, 0))] ++ [pt w.heap.size (.cells cs 9 (0, 0))]) := h2.forget
      exact h3.swap
    refine ⟨⟨w.heap.size, some ⟨w.heap.size, 0, none⟩, l.length + v.length, cap⟩, some (.cells cs 9 (0, 0)), rfl, fun ρ' => ⟨?_, .inr ⟨cs, rfl, rfl, ?_, ?_, ?_, ?_⟩⟩, hs2⟩
    · show l.length + v.length = (l.take i ++ (v ++ l.drop i)).length
      simp; omega
    · show (l.take i ++ (v ++ l.drop i)).length ≤ cap
      simp; omega
    · rw [maxLen_eq]; omega
    · show cs.size = cap * 1
      omega
    · refine row9_mk ?_
      rw [c1, hde, hA2]
      have := ins_list l v i (by omega) (A0.toList.drop (i + v.length + (strV (l.drop i)).length)) (strV l) (fun j x hx => by simp [strV, hx])
      exact this
def insF (i : Int) (l v : List Str) : Option (List Str × Unit) := if 0 ≤ i ∧ i < (l.length : Int) ∧ 0 < v.length ∧ (l.length + v.length) * 16 ≤ 140737488355328 then some (l.take i.toNat ++ (v ++ l.drop i.toNat), ()) else none
theorem two_of {α : Type} : ∀ (l : List α), l.length = 2 → ∃ a b, l = [a, b]
  | [a, b], _ => ⟨a, b, rfl⟩
theorem ins_ok {G : Heap → Prop} : COk hY Tryz.prog G 62 (callee Y [0, 2] ⟨[(0, .own 0), (1, .int .i64), (2, .own 1)], [.arr 9, .arr 9]⟩ [⟨false, .own 0, [.arr 9, .gone]⟩] (fun z => insF z.1 z.2.1 z.2.2.1)) := by
  refine ⟨⟨_, Tryz.func62, by kernel_rfl, rfl⟩, fun {R} args ms r k e w F ρ os vals D hGF hargs hml hol hm hst0 => ?_⟩
  simp only [callee] at e
  split at e
  · rename_i z hz
    obtain ⟨hlen, e⟩ := bif_do e
    have hlen : args.length = 3 := Nat.eq_of_beq_eq_true hlen
    obtain ⟨zo, hzo, hk⟩ := bnd_some e
    match args, hlen with
    | [a0, a1, a2], _ =>
      have hlk : looks Y (zipE Y [0, 1, 2] [a0, a1, a2]) [0, 1, 2] = some [a0, a1, a2] := rfl
      unfold matchAt at hz
      simp only [keys] at hz
      rw [hlk] at hz
      split at hz
      · rename_i al y has hy
        cases has
        obtain ⟨g1, g2⟩ := getL_ok hY _ _ hz hargs
        obtain ⟨m1, m2, m3⟩ := getMs_ok hY _ _ hy
        obtain ⟨i, l, v, u⟩ := z
        subst g1
        have g2 : Rels Y F ρ [.own 0, .v (.int .i64 i), .own 1] vals := g2
        obtain ⟨u0, r0, rfl, q0, g2⟩ := g2.inv
        obtain ⟨u1, r1, rfl, q1, g2⟩ := g2.inv
        obtain ⟨u2, r2, rfl, q2, g2⟩ := g2.inv
        obtain rfl := g2.nil_inv
        have e1 := q1.v_inv
        subst e1
        cases q0 with
        | @own _ pa ha =>
        cases q2 with
        | @own _ pv hv =>
        have hms : ms.length = 2 := m2.symm
        obtain ⟨x0, hx0, kx0⟩ := m3 0 (.arr 9 l) rfl
        obtain ⟨x1, hx1, kx1⟩ := m3 1 (.arr 9 v) rfl
        obtain ⟨pa', pv', rfl⟩ := two_of ρ (by omega)
        obtain ⟨oa, ov, rfl⟩ := two_of os (by omega)
        cases ha; cases hv
        have hA := kx0.1 _ _ _ _ (hm 0 x0 pa oa hx0 rfl rfl)
        have hB := kx1.1 _ _ _ _ (hm 1 x1 pv ov hx1 rfl rfl)
        have hzo : insF i l v = some zo := hzo
        unfold insF at hzo
        split at hzo
        · rename_i hc
          cases hzo
          obtain ⟨c1, c2, c3, c4⟩ := hc
          obtain ⟨j, rfl⟩ := Int.eq_ofNat_of_zero_le c1
          have := ins_calls w F D _ pa pv oa ov l v j (by omega) c3 c4 hA hB hst0
          refine this.mono fun e w' h => ?_
          obtain ⟨pa2, oa2, rfl, hM, hS⟩ := h
          refine ⟨.ret (.own 0), F, [pa2, pv], [oa2, ov], [.arr 9 (l.take j ++ (v ++ l.drop j)), .gone], hk, .ret (.own rfl), rfl, rfl, ?_, hS, Nat.le_refl _, ?_⟩
          · intro k x p o hx hp ho
            match k with
            | 0 => cases hx; cases hp; cases ho; exact hM _
            | 1 => cases hx; trivial
            | k + 2 => simp at hx
          · intro k ty q p hq hp
            exfalso
            match k with
            | 0 => obtain ⟨e, xs, hx⟩ := kx0.2 _ _ rfl; rw [hx0, hx] at hq; cases hq
            | 1 => obtain ⟨e, xs, hx⟩ := kx1.2 _ _ rfl; rw [hx1, hx] at hq; cases hq
            | k + 2 => rw [List.getElem?_eq_none (by omega)] at hq; cases hq
        · cases hzo
      · cases hz
  · cases e
end Go.D07

