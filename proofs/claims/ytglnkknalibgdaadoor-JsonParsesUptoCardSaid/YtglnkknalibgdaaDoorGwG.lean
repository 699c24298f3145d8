/- Slices that a call makes: appended to, read, written, handed on. For any program. -/
import Derived.Test.YtglnkknalibgdaaDoorGwF
set_option linter.unusedVariables false
set_option linter.unusedSimpArgs false
set_option linter.unnecessarySimpa false
namespace Go.Gw
open Go.RowKit
set_option linter.unusedSimpArgs false

theorem maxLen_eq : maxLen = 9223372036854775807 := by simp only [maxLen]
/-- cells that begin with the elements xs -/
def rowIs {α : Type} (F : Heap) (d : Kind α) (cells : List Value) (xs : List α) : Prop :=
  ∀ i x, xs[i]? = some x → ∃ cs, d.holds F x cs ∧ ∀ j v, cs[j]? = some v → cells[i * d.sz + j]? = some v
theorem rowIs.mono {α : Type} {F F' : Heap} {d : Kind α} {cells : List Value} {xs : List α} (h : F.Le F') (r : rowIs F d cells xs) : rowIs F' d cells xs :=
  fun i x hx => let ⟨cs, h1, h2⟩ := r i x hx; ⟨cs, d.mono h h1, h2⟩
/-- a slice of the call's own: nil, or a block of its own -/
def accP {α : Type} (e : TypeId) (d : Kind α) (A : Option Addr) (c : Nat) (xs : List α) : SP where
  holds F h := (A = none ∧ c = 0 ∧ xs = [] ∧ h = Heap.nil) ∨
    ∃ b cells, A = some ⟨b, 0, none⟩ ∧ h = Heap.one b (.cells cells e (0, 0)) ∧ xs.length ≤ c ∧ c ≤ maxLen ∧ cells.size = c * d.sz ∧ rowIs F d cells.toList xs
  mono hle := fun
    | .inl r => .inl r
    | .inr ⟨b, cells, h1, h2, h3, h4, h5, h6⟩ => .inr ⟨b, cells, h1, h2, h3, h4, h5, h6.mono hle⟩

/-- what is owned at place i is turned into something else -/
theorem St.replace {w0 w w' : World} {F0 F : Heap} {D : Own} {L : List SP} {i : Nat} {A0 A1 : SP} (h : St w0 F0 D w F L) (hi : L[i]? = some A0)
    (hnew : ∀ g0, A0.holds F g0 → g0.Sub w → w'.os = w.os ∧ w'.tape = w.tape ∧ w'.output = w.output ∧ w.heap.size ≤ w'.heap.size ∧ (∀ x, x < w.heap.size → g0 x = none → w'.heap[x]? = w.heap[x]?) ∧
      ∃ g1, A1.holds F g1 ∧ g1.Sub w' ∧ ∀ x o, g1 x = some o → g0 x ≠ none ∨ w.heap.size ≤ x) : St w0 F0 D w' F (L.set i A1) := by
  obtain ⟨x, a, s, f, d⟩ := h.own
  obtain ⟨g, k, ha, c, rfl, ae, put⟩ := all_at hi a
  obtain ⟨f1, f2⟩ := Heap.apart_join'.1 f
  have sg : g.Sub w := s.of_join_left
  have sk : k.Sub w := s.of_join_right c
  obtain ⟨h1, h2, h3, h4, h5, g1, h6, h7, h8⟩ := hnew g ha sg
  have stays : ∀ {m : Heap}, m.Sub w → (∀ x o, m x = some o → g x = none) → m.Sub w' := fun {m} hm hd => ⟨fun x o e => by rw [h5 x (hm.lt e) (hd x o e)]; exact hm.out x o e⟩
  have kg : ∀ x o, k x = some o → g x = none := fun x o e => by rcases c.out x with e' | e'; exact e'; rw [e] at e'; cases e'
  have Fg : ∀ x o, F x = some o → g x = none := fun x o e => by rcases f1.out x with e' | e'; rw [e] at e'; cases e'; exact e'
  refine ⟨h1.trans h.os, h2.trans h.tape, h3.trans h.output, Nat.le_trans h.size h4, ?_, h.le, h.new, stays h.view Fg, g1.join k, put (.refl F) h6 ae ?_, h7.join (stays sk kg), Heap.apart_join'.2 ⟨?_, f2⟩, ?_⟩
  · intro b hb hd
    rw [h5 b (Nat.lt_of_lt_of_le hb h.size) ?_]
    · exact h.frame b hb hd
    · cases e : g b with
      | none => rfl
      | some o => rcases d b o (Heap.join_left e) with e2 | e2; exact absurd e2 hd; omega
  · refine ⟨fun b => ?_⟩
    cases e : g1 b with
    | none => exact .inl rfl
    | some o =>
      right
      rcases h8 b o e with e2 | e2
      · rcases c.out b with e3 | e3
        · exact absurd e3 e2
        · exact e3
      · exact sk.free e2
  · refine ⟨fun b => ?_⟩
    cases e : g1 b with
    | none => exact .inr rfl
    | some o =>
      left
      rcases h8 b o e with e2 | e2
      · rcases f1.out b with e3 | e3
        · exact e3
        · exact absurd e3 e2
      · exact h.view.free e2
  · intro b o e
    rcases Heap.join_some e with e | e
    · rcases h8 b o e with e2 | e2
      · cases e3 : g b with
        | none => exact absurd e3 e2
        | some p => exact d b p (Heap.join_left e3)
      · exact .inr (Nat.le_trans h.size e2)
    · exact d b o (Heap.join_right c e)

section
variable {P : Program} {w : World}

theorem firstCells_drew {size m : Nat} {x : Value} {news : List Value} (hx : ∀ w' : World, (∀ p, w'.cell? p = w.cell? p) → (Builtin.firstCells size m x).run P w' = .ok news.toArray w') :
    (Builtin.firstCells size m x).run P w.drew = .ok news.toArray w.drew := hx _ (fun _ => rfl)

theorem nextslicecap_le (need old : Nat) (h : old < need) : Builtin.nextslicecap need old ≤ 2 * need + 256 := by
  unfold Builtin.nextslicecap
  split
  · omega
  · split
    · omega
    · have key : ∀ r c, c ≤ 2 * need + 256 → Builtin.growBy need r c ≤ 2 * need + 256 := by
        intro r
        induction r with
        | zero => intro c hc; exact hc
        | succ r ih =>
          intro c hc
          simp only [Builtin.growBy]
          split
          · exact hc
          · exact ih _ (by omega)
      exact key 4 old (by omega)

set_option maxHeartbeats 2000000 in
/-- append, whatever is appended -/
theorem app_run {α : Type} {d : Kind α} {F : Heap} {t u ty e : TypeId} {i : TypeInfo} {z : Value} {A : Option Addr} {c : Nat} {xs ys : List α} {g0 : Heap} {x : Value} {m : Nat} {news : List Value} {dd : TypeDesc}
    (ht : P.underlying t = some (.slice e)) (hu : P.underlying u = some dd) (hdd : dd = .string ∨ ∃ q, dd = .slice q) (hi : P.info? e = some i) (hz : i.zero = some z) (hsize : i.size = d.sz) (hzs : z.cells.size = d.sz)
    (hacc : (accP e d A c xs).holds F g0) (hsub : g0.Sub w)
    (hlen : (Builtin.lenOf x).run P w = .ok m w) (hfirst : ∀ w' : World, (∀ p, w'.cell? p = w.cell? p) → (Builtin.firstCells i.size m x).run P w' = .ok news.toArray w') (hl : news.length = m * d.sz) (hone : ∀ v ∈ news, v.oneCell' = true)
    (hm : ys.length = m) (hys : rowIs F d news ys) (hlim : 2 * (xs.length + m) * i.bytes + 256 * i.bytes ≤ 281474976710656) (h63 : xs.length + m ≤ 4611686018427387904) :
    ∃ A' c' w' g1, (Builtin.append_ #[t, u] ty #[.slice A xs.length c, x]).run P w = .ok (.slice A' (xs ++ ys).length c') w' ∧
      w'.os = w.os ∧ w'.tape = w.tape ∧ w'.output = w.output ∧ w.heap.size ≤ w'.heap.size ∧ (∀ x, x < w.heap.size → g0 x = none → w'.heap[x]? = w.heap[x]?) ∧
      (accP e d A' c' (xs ++ ys)).holds F g1 ∧ g1.Sub w' ∧ ∀ x o, g1 x = some o → g0 x ≠ none ∨ w.heap.size ≤ x := by
  have hlenxy : (xs ++ ys).length = xs.length + m := by rw [List.length_append, hm]
  -- the elements of both lie in a row that begins with the cells of both
  have joined : ∀ (olds : List Value) (cells : List Value), olds.length = xs.length * d.sz → rowIs F d olds xs → cells.take ((xs.length + m) * d.sz) = olds ++ news → rowIs F d cells (xs ++ ys) := by
    intro olds cells ho hr hc k y hk
    have get : ∀ q v, (olds ++ news)[q]? = some v → cells[q]? = some v := fun q v hq => by
      rw [← hc, List.getElem?_take] at hq
      split at hq
      · exact hq
      · cases hq
    rw [List.getElem?_append] at hk
    split at hk
    · obtain ⟨cs, h1, h2⟩ := hr k y hk
      exact ⟨cs, h1, fun j v hj => get _ _ (by
        have := h2 j v hj
        rw [List.getElem?_append_left (List.getElem?_eq_some_iff.1 this).1]; exact this)⟩
    · rename_i hge
      obtain ⟨cs, h1, h2⟩ := hys _ y hk
      refine ⟨cs, h1, fun j v hj => get _ _ ?_⟩
      have e1 : k * d.sz + j = olds.length + ((k - xs.length) * d.sz + j) := by
        rw [ho, Nat.sub_mul]
        have : xs.length * d.sz ≤ k * d.sz := Nat.mul_le_mul_right _ (by omega)
        omega
      rw [e1, List.getElem?_append_right (by omega), Nat.add_sub_cancel_left]
      exact h2 j v hj
  -- the arm that grows
  have grows : ∀ (olds : List Value), olds.length = xs.length * d.sz → rowIs F d olds xs → c < xs.length + m → (Builtin.firstCells i.size xs.length (.slice A xs.length c)).run P w.drew = .ok olds.toArray w.drew →
      (Builtin.append_ #[t, u] ty #[.slice A xs.length c, x]).run P w = .ok (.slice (some ⟨w.heap.size, 0, none⟩) (xs.length + m) (grownCap w (xs.length + m) c e)) (w.drew.alloc (.cells (olds.toArray ++ news.toArray ++ Builtin.zeroCells z.cells (grownCap w (xs.length + m) c e - (xs.length + m))) e (0, 0))) := by
    intro olds ho hr hg hf
    have hn : ¬ (xs.length + m ≤ c) := by omega
    have h63' : ¬ (9223372036854775807 < ((xs.length : Int) + (m : Int))) := by omega
    have hcap := nextslicecap_le (xs.length + m) c hg
    have h48' : ¬ (281474976710656 < Builtin.nextslicecap (xs.length + m) c * i.bytes) := by
      have h1 : Builtin.nextslicecap (xs.length + m) c * i.bytes ≤ (2 * (xs.length + m) + 256) * i.bytes := Nat.mul_le_mul_right _ hcap
      have h2 : 2 * (xs.length + m) * i.bytes + 256 * i.bytes = (2 * (xs.length + m) + 256) * i.bytes := by rw [Nat.add_mul]
      omega
    have hx := firstCells_drew hfirst
    rcases hdd with rfl | ⟨q, rfl⟩
    all_goals
      simp [Builtin.append_, run_underlying ht, run_underlying hu, sizeOf, typeInfo, zeroValue, hi, hz, hlen, hn, h63', h48', Question.forced, hx, hf, newRow, grownCap]
      congr 2
      apply Array.ext'
      simp [List.append_assoc]
  have hcapge := grownCap_ge w (xs.length + m) c e
  have hcaple : xs.length + m ≤ maxLen → grownCap w (xs.length + m) c e ≤ maxLen := grownCap_le_maxLen w (xs.length + m) c e
  have h63m : xs.length + m ≤ maxLen := by rw [maxLen_eq]; omega
  -- what the growing arm leaves
  have grown : ∀ (olds : List Value), olds.length = xs.length * d.sz → rowIs F d olds xs → c < xs.length + m →
      (accP e d (some ⟨w.heap.size, 0, none⟩) (grownCap w (xs.length + m) c e) (xs ++ ys)).holds F (Heap.one w.heap.size (.cells (olds.toArray ++ news.toArray ++ Builtin.zeroCells z.cells (grownCap w (xs.length + m) c e - (xs.length + m))) e (0, 0))) := by
    intro olds ho hr hg
    refine .inr ⟨_, _, rfl, rfl, by rw [hlenxy]; exact hcapge, hcaple h63m, ?_, joined olds _ ho hr ?_⟩
    · simp only [Array.size_append, List.size_toArray, size_zeroCells, hzs, ho, hl]
      rw [← Nat.add_mul, ← Nat.add_mul]
      congr 1
      omega
    · simp only [Array.toList_append, List.append_assoc]
      rw [← List.append_assoc]
      have : (olds ++ news).length = (xs.length + m) * d.sz := by rw [List.length_append, ho, hl, Nat.add_mul]
      rw [← this]
      exact List.take_left
  have heap_new : ∀ oo, (w.drew.alloc oo).heap[w.heap.size]? = some oo := fun oo => by
    show (w.drew.heap.push oo)[w.heap.size]? = _
    exact Array.getElem?_push_size
  have heap_old : ∀ oo x, x < w.heap.size → (w.drew.alloc oo).heap[x]? = w.heap[x]? := fun oo x hx => Below.heap_alloc w.drew oo x hx
  have heap_size : ∀ oo, w.heap.size ≤ (w.drew.alloc oo).heap.size := fun oo => by rw [alloc_size]; exact Nat.le_succ _
  have fin_grow : ∀ (olds : List Value), olds.length = xs.length * d.sz → rowIs F d olds xs → c < xs.length + m → (Builtin.firstCells i.size xs.length (.slice A xs.length c)).run P w.drew = .ok olds.toArray w.drew →
      ∃ A' c' w' g1, (Builtin.append_ #[t, u] ty #[.slice A xs.length c, x]).run P w = .ok (.slice A' (xs ++ ys).length c') w' ∧
      w'.os = w.os ∧ w'.tape = w.tape ∧ w'.output = w.output ∧ w.heap.size ≤ w'.heap.size ∧ (∀ x, x < w.heap.size → g0 x = none → w'.heap[x]? = w.heap[x]?) ∧
      (accP e d A' c' (xs ++ ys)).holds F g1 ∧ g1.Sub w' ∧ ∀ x o, g1 x = some o → g0 x ≠ none ∨ w.heap.size ≤ x := by
    intro olds ho hr hg hf
    refine ⟨some ⟨w.heap.size, 0, none⟩, grownCap w (xs.length + m) c e, w.drew.alloc (.cells (olds.toArray ++ news.toArray ++ Builtin.zeroCells z.cells (grownCap w (xs.length + m) c e - (xs.length + m))) e (0, 0)), _, by rw [grows olds ho hr hg hf, hlenxy], rfl, rfl, rfl, heap_size _, fun x hx _ => heap_old _ x hx, grown olds ho hr hg, ⟨fun b o e' => ?_⟩, fun b o e' => ?_⟩
    · obtain ⟨rfl, rfl⟩ := Heap.one_some e'; exact heap_new _
    · obtain ⟨rfl, rfl⟩ := Heap.one_some e'; exact .inr (Nat.le_refl _)
  rcases hacc with ⟨rfl, rfl, rfl, rfl⟩ | ⟨b, cells, rfl, rfl, hxc, hcm, hsz, hrow⟩
  · -- nil
    by_cases h0 : m = 0
    · have hy0 : ys = [] := List.length_eq_zero_iff.1 (hm.trans h0)
      subst hy0
      subst h0
      have hnews : news = [] := List.length_eq_zero_iff.1 (by rw [hl, Nat.zero_mul])
      subst hnews
      have hx := hfirst w (fun _ => rfl)
      refine ⟨none, 0, w, Heap.nil, ?_, rfl, rfl, rfl, Nat.le_refl _, fun _ _ _ => rfl, .inl ⟨rfl, rfl, rfl, rfl⟩, ⟨fun _ _ e' => by cases e'⟩, fun _ _ e' => by cases e'⟩
      rcases hdd with rfl | ⟨q, rfl⟩
      all_goals
        simp [Builtin.append_, run_underlying ht, run_underlying hu, sizeOf, typeInfo, hi, hlen, hx]
    · refine fin_grow [] (by simp) (fun k y hk => by simp at hk) (by simp; omega) ?_
      simp [Builtin.firstCells]
  · -- a block
    have hblk : w.heap[b]? = some (.cells cells e (0, 0)) := hsub.out b _ (Heap.one_self _ _)
    have hcl : cells.toList.length = cells.size := Array.length_toList
    have hol : (cells.toList.take (xs.length * d.sz)).length = xs.length * d.sz := by
      rw [List.length_take, hcl, hsz]
      have := Nat.mul_le_mul_right d.sz hxc
      omega
    have hor : rowIs F d (cells.toList.take (xs.length * d.sz)) xs := fun k y hk => by
      obtain ⟨cs, h1, h2⟩ := hrow k y hk
      refine ⟨cs, h1, fun j v hj => ?_⟩
      rw [List.getElem?_take, if_pos ?_]
      · exact h2 j v hj
      · have hk' := (List.getElem?_eq_some_iff.1 hk).1
        have hj' := (List.getElem?_eq_some_iff.1 hj).1
        rw [d.length h1] at hj'
        have : (k + 1) * d.sz ≤ xs.length * d.sz := Nat.mul_le_mul_right _ hk'
        rw [Nat.add_mul] at this
        omega
    by_cases hroom : xs.length + m ≤ c
    · have hx := hfirst w (fun _ => rfl)
      have hfit : xs.length * d.sz + news.length ≤ cells.size := by
        rw [hl, ← Nat.add_mul, hsz]; exact Nat.mul_le_mul_right _ hroom
      have hst := run_storeCells_cells (P := P) b (xs.length * d.sz) news 0 w (fun j hj => by
        have : xs.length * d.sz + j < cells.size := by omega
        unfold World.cell?
        rw [hblk]
        simp [this]) (fun j hj => by unfold World.frozen?; rw [hblk]; simp) hone
      rw [Nat.add_zero] at hst
      obtain ⟨q1, q2, q3, q4, q5⟩ := setCells_os b news (xs.length * d.sz) w
      have q6 := setCells_block b news (xs.length * d.sz) w cells hblk hfit
      refine ⟨some ⟨b, 0, none⟩, c, w.setCells b (xs.length * d.sz) news, Heap.one b (.cells (cells.toList.take (xs.length * d.sz) ++ (news ++ cells.toList.drop (xs.length * d.sz + news.length))).toArray e (0, 0)), ?_, q1, q2, q3, by rw [q4]; exact Nat.le_refl _, fun x hx hg => q5 x (fun e' => by subst e'; rw [Heap.one_self] at hg; cases hg), .inr ⟨b, _, rfl, rfl, by rw [hlenxy]; exact hroom, hcm, ?_, joined _ _ hol hor ?_⟩, ⟨fun y o e' => by obtain ⟨rfl, rfl⟩ := Heap.one_some e'; exact q6⟩, fun y o e' => by obtain ⟨rfl, rfl⟩ := Heap.one_some e'; exact .inl (by rw [Heap.one_self]; simp)⟩
      · rw [hlenxy]
        have hadd : (⟨b, 0, none⟩ : Addr).add (xs.length * d.sz) = ⟨b, xs.length * d.sz, none⟩ := by rw [add_at, Nat.zero_add]
        rw [← hsize] at hst hadd ⊢
        rcases hdd with rfl | ⟨q, rfl⟩
        all_goals
          simp [Builtin.append_, run_underlying ht, run_underlying hu, sizeOf, typeInfo, hi, hlen, hx, hroom, hadd, hst]
      · have l1 : (cells.toList.take (xs.length * d.sz) ++ (news ++ cells.toList.drop (xs.length * d.sz + news.length))).toArray.size = cells.size := by
          rw [List.size_toArray, List.length_append, List.length_append, List.length_drop, hol, hcl]; omega
        rw [l1, hsz]
      · have l2 : (cells.toList.take (xs.length * d.sz) ++ news).length = (xs.length + m) * d.sz := by rw [List.length_append, hol, hl, Nat.add_mul]
        show List.take ((xs.length + m) * d.sz) (cells.toList.take (xs.length * d.sz) ++ (news ++ cells.toList.drop (xs.length * d.sz + news.length))) = _
        rw [← List.append_assoc, ← l2]
        exact List.take_left
    · refine fin_grow (cells.toList.take (xs.length * d.sz)) hol hor (by omega) ?_
      rw [← hsize] at hol ⊢
      exact run_firstCells_some (P := P) w.drew i.size xs.length ⟨b, 0, none⟩ xs.length c _ hol (fun j v hj => by
        rw [add_at, Nat.zero_add]
        rw [List.getElem?_take] at hj
        split at hj
        · show w.cell? ⟨b, j, none⟩ = some v
          unfold World.cell?
          rw [hblk]
          simpa using hj
        · cases hj)
end

section
variable {P : Program} {N : Nat} {w0 : World} {F0 : Heap} {D : Own} {w : World} {F : Heap} {L : List SP} {B B' : List (Option Box)} {ρ : Nat → Nat} {l : Env} {a : Act} {o : Oper} {ops : Array Oper} {lit : List Nat} {rest : List Oper} {Q : Exit → Act → World → Prop}

theorem boxes_get (ρ : Nat → Nat) (B : List (Option Box)) (L : List SP) {i : Nat} {A : SP} (h : L[i]? = some A) : (boxes ρ 0 B ++ L)[B.length + i]? = some A := by
  rw [List.getElem?_append_right (by rw [boxes_length]; omega), boxes_length, Nat.add_sub_cancel_left]; exact h
theorem boxes_setL (ρ : Nat → Nat) (B : List (Option Box)) (L : List SP) (i : Nat) (A : SP) : (boxes ρ 0 B ++ L).set (B.length + i) A = boxes ρ 0 B ++ L.set i A := by
  rw [List.set_append_right _ _ (by rw [boxes_length]; omega), boxes_length, Nat.add_sub_cancel_left]

def infoB (P : Program) (e : TypeId) (sz bytes : Nat) : Bool := match P.info? e with
  | some i => Nat.beq i.size sz && Nat.beq i.bytes bytes && (match i.zero with | some z => Nat.beq z.cells.size sz | none => false)
  | none => false
theorem infoB_ok {e : TypeId} {sz bytes : Nat} (h : infoB P e sz bytes = true) : ∃ i z, P.info? e = some i ∧ i.zero = some z ∧ i.size = sz ∧ i.bytes = bytes ∧ z.cells.size = sz := by
  unfold infoB at h
  cases hi : P.info? e with
  | none => rw [hi] at h; cases h
  | some i =>
    rw [hi] at h
    simp only [Bool.and_eq_true] at h
    obtain ⟨⟨h1, h2⟩, h3⟩ := h
    cases hz : i.zero with
    | none => rw [hz] at h3; cases h3
    | some z => rw [hz] at h3; exact ⟨i, z, rfl, hz, Nat.eq_of_beq_eq_true h1, Nat.eq_of_beq_eq_true h2, Nat.eq_of_beq_eq_true h3⟩
theorem elemB_under {T e : TypeId} (h : elemB P T = some e) : P.underlying T = some (.slice e) := by
  unfold elemB at h
  cases hu : P.underlying T with
  | none => rw [hu] at h; cases h
  | some d => rw [hu] at h; cases d <;> simp only at h <;> cases h; rfl

theorem accP_one {α : Type} {e : TypeId} {d : Kind α} {A : Option Addr} {c : Nat} {xs : List α} {g g' : Heap} (h : (accP e d A c xs).holds F g) (hs : g.Sub w) (h' : (accP e d A c xs).holds F g') (hs' : g'.Sub w) : g = g' := by
  rcases h with ⟨rfl, _, _, rfl⟩ | ⟨b, cells, rfl, rfl, _⟩
  · rcases h' with ⟨_, _, _, rfl⟩ | ⟨b, cells, e1, _⟩
    · rfl
    · cases e1
  · rcases h' with ⟨e1, _⟩ | ⟨b', cells', e1, rfl, _⟩
    · cases e1
    · cases e1
      have h1 := hs.out b _ (Heap.one_self _ _)
      have h2 := hs'.out b _ (Heap.one_self _ _)
      rw [h1] at h2
      rw [Option.some.inj h2]
theorem plains_append : ∀ {l m : List SV} {vs : List Value}, SV.plains (l ++ m) = some vs → ∃ v1 v2, SV.plains l = some v1 ∧ SV.plains m = some v2 ∧ vs = v1 ++ v2
  | [], m, vs, h => ⟨[], vs, rfl, h, rfl⟩
  | s :: l, m, vs, h => by
    simp only [List.cons_append, SV.plains] at h
    cases hs : s.plain with
    | none => rw [hs] at h; cases h
    | some x =>
      cases hl : SV.plains (l ++ m) with
      | none => rw [hs, hl] at h; cases h
      | some r =>
        rw [hs, hl] at h; cases h
        obtain ⟨v1, v2, h1, h2, rfl⟩ := plains_append hl
        exact ⟨x :: v1, v2, by simp only [SV.plains, hs, h1], h2, rfl⟩

/-- append onto a slice of the call's own, whatever is appended -/
theorem Cx.app {α : Type} {d : Kind α} {e T T2 : TypeId} {s x : Operand} {i : Nat} {A : Option Addr} {c bytes m : Nat} {xs ys : List α} {news : List Value} {dd : TypeDesc}
    (h : Cx N w0 F0 D w F L B ρ l a) (hg : gd ops lit [] l o.guard = some .yes) (hd : fitsB N o.dst = true) (hL : L[i]? = some (accP e d A c xs))
    (hop : o.op = .call { callee := .builtin .append, args := #[s, x], argTypes := #[T, T2] }) (hT : elemB P T = some e) (hT2 : P.underlying T2 = some dd) (hdd : dd = .string ∨ ∃ q, dd = .slice q) (hi : infoB P e d.sz bytes = true)
    (hs : ov l s = some (.v (.slice A xs.length c))) (hb : bytes ≤ 256) (hroom : room (xs.length + ys.length) = some ())
    (hlen : (Builtin.lenOf (a.eval x)).run P w = .ok m w) (hfirst : ∀ w' : World, (∀ p, w'.cell? p = w.cell? p) → (Builtin.firstCells d.sz m (a.eval x)).run P w' = .ok news.toArray w') (hl : news.length = m * d.sz) (hone : ∀ v ∈ news, v.oneCell' = true)
    (hm : ys.length = m) (hys : rowIs F d news ys)
    (hK : ∀ A' c' w' a', Cx N w0 F0 D w' F (L.set i (accP e d A' c' (xs ++ ys))) B ρ (after l o.dst (.v (.slice A' (xs ++ ys).length c'))) a' → wpList P ops Q rest a' w') : wpList P ops Q (o :: rest) a w := by
  obtain ⟨inf, z, hinf, hz, hsz, hby, hzs⟩ := infoB_ok hi
  have hrm : xs.length + m ≤ 274877906944 := by
    unfold room at hroom
    split at hroom
    · rw [← hm]; assumption
    · cases hroom
  have hlim : 2 * (xs.length + m) * inf.bytes + 256 * inf.bytes ≤ 281474976710656 := by
    rw [hby]
    have h1 : 2 * (xs.length + m) * bytes ≤ 549755813888 * 256 := Nat.mul_le_mul (by omega) hb
    have h2 : 256 * bytes ≤ 256 * 256 := Nat.mul_le_mul_left _ hb
    omega
  have hi' := boxes_get ρ B L hL
  have e1 : a.eval s = .slice A xs.length c := h.eval hs
  obtain ⟨q, ha, hs', _, _⟩ := h.st.own
  obtain ⟨g, k, hacc, _, rfl, _, _⟩ := all_at hi' ha
  have hsub : g.Sub w := hs'.of_join_left
  obtain ⟨A', c', w', g1, hrun, p1, p2, p3, p4, p5, p6, p7, p8⟩ := app_run (P := P) (t := T) (u := T2) (ty := o.type) (elemB_under hT) hT2 hdd hinf hz hsz hzs hacc hsub hlen (by rw [hsz]; exact hfirst) hl hone hm hys hlim (by omega)
  have hst := h.st.replace (A1 := accP e d A' c' (xs ++ ys)) hi' (w' := w') (fun g0 hg0 hs0 => by
    have : g0 = g := accP_one hg0 hs0 hacc hsub
    subst this
    exact ⟨p1, p2, p3, p4, p5, g1, p6, p7, p8⟩)
  rw [boxes_setL] at hst
  refine h.oneOp hg hd (s := .v (.slice A' (xs ++ ys).length c')) (ρ' := ρ) (B' := B) ?_ ⟨h.size, h.nodef, h.env, h.good, h.bgood, h.fix, hst⟩ trivial rfl (hK A' c' w')
  unfold execOp
  rw [hop]
  simp only [resolve, invoke, builtin, Sem.run_bind, Sem.run_pure, Result.andThen_ok, List.map_toArray, List.map_cons, List.map_nil, e1, hrun, SV.den, pure_bind]

theorem flat_len {α : Type} (d : Kind α) : ∀ zs : List (α × d.Y), (zs.map fun z => d.f z.1 z.2).flatten.length = zs.length * d.sz
  | [] => by simp
  | z :: r => by simp only [List.map_cons, List.flatten_cons, List.length_append, d.len, flat_len d r, List.length_cons, Nat.add_mul]; omega
theorem flat_row {α : Type} (d : Kind α) {F : Heap} : ∀ {zs : List (α × d.Y)} {vs : List Value}, SV.plains (zs.map fun z => d.f z.1 z.2).flatten = some vs → SV.goods F (zs.map fun z => d.f z.1 z.2).flatten → rowIs F d vs (zs.map (·.1))
  | [], _, _, _, j, y, hj => by simp at hj
  | z :: r, vs, hvs, hg, j, y, hj => by
    simp only [List.map_cons, List.flatten_cons] at hvs hg hj
    obtain ⟨v1, v2, h1, h2, rfl⟩ := plains_append hvs
    have hg1 := SV.goods_iff.1 hg
    have hgz : SV.goods F (d.f z.1 z.2) := SV.goods_iff.2 fun s hs => hg1 s (List.mem_append_left _ hs)
    have hlz : v1.length = d.sz := by rw [plains_length h1, d.len]
    cases j with
    | zero =>
      simp at hj
      subst hj
      refine ⟨v1, d.shut h1 hgz, fun q v hq => ?_⟩
      rw [Nat.zero_mul, Nat.zero_add, List.getElem?_append_left (List.getElem?_eq_some_iff.1 hq).1]; exact hq
    | succ j =>
      simp only [List.getElem?_cons_succ] at hj
      obtain ⟨cs, c1, c2⟩ := flat_row d (zs := r) h2 (SV.goods_iff.2 fun s hs => hg1 s (List.mem_append_right _ hs)) j y hj
      refine ⟨cs, c1, fun q v hq => ?_⟩
      have := c2 q v hq
      rw [Nat.add_mul, Nat.one_mul, show j * d.sz + d.sz + q = v1.length + (j * d.sz + q) by omega, List.getElem?_append_right (by omega), Nat.add_sub_cancel_left]
      exact this
end
end Go.Gw

