/- Several texts in one. -/
import Derived.Test.YtglnkknalibgdaaDoorA13d
import Derived.Test.YtglnkknalibgdaaDoorGwL
import Derived.KernelRfl
import Derived.Lib.ItoaLen
set_option linter.unusedVariables false
set_option linter.unusedSimpArgs false
set_option linter.unnecessarySimpa false
/- Chapter 13, plainly: loops over lists; how deep and how much data is; the chapter's examples. -/
namespace Go.D13
open Go Go.Gw Go.Dn
set_option linter.unusedSimpArgs false
set_option linter.unusedVariables false
instance lpI : Lp := lpN 1000000000000

theorem loop_of {S E : Type} {step : S → Option (S ⊕ E)} {n : Nat} {s : S} {e : E} (h : loopN step n s = some e) (hn : n ≤ 1000000000000) : Lp.loop step s = some e :=
  loopN_more _ h hn
theorem loopN_go {S E : Type} {step : S → Option (S ⊕ E)} {n : Nat} {s s' : S} (h : step s = some (.inl s')) : loopN step (n + 1) s = loopN step n s' := by simp only [loopN, h, Option.bind_some]
theorem loopN_out {S E : Type} {step : S → Option (S ⊕ E)} {n : Nat} {s : S} {e : E} (h : step s = some (.inr e)) : loopN step (n + 1) s = some e := by simp only [loopN, h, Option.bind_some]

/-- a list is gone through, until it ends or something is found -/
def foldE {A X E : Type} (f : A → X → A ⊕ E) (out : A → E) : A → List X → E
  | a, [] => out a
  | a, x :: r => match f a x with | .inl a' => foldE f out a' r | .inr e => e
theorem foldE_inl {A X E : Type} {f : A → X → A ⊕ E} {out : A → E} {a a' : A} {x : X} {r : List X} (h : f a x = .inl a') : foldE f out a (x :: r) = foldE f out a' r := by simp only [foldE, h]
theorem foldE_inr {A X E : Type} {f : A → X → A ⊕ E} {out : A → E} {a : A} {e : E} {x : X} {r : List X} (h : f a x = .inr e) : foldE f out a (x :: r) = e := by simp only [foldE, h]
theorem loop_fold {S E A X : Type} {step : S → Option (S ⊕ E)} (mk : A → Nat → S) (l : List X) (f : A → X → A ⊕ E) (out : A → E) (P : A → List X → Prop)
    (hgo : ∀ i x r a, l.drop i = x :: r → P a (x :: r) → match f a x with | .inl a' => step (mk a i) = some (.inl (mk a' (i + 1))) ∧ P a' r | .inr e => step (mk a i) = some (.inr e))
    (hend : ∀ a, P a [] → step (mk a l.length) = some (.inr (out a))) : ∀ (r : List X) (i : Nat) (a : A), l.drop i = r → i ≤ l.length → P a r → loopN step (r.length + 1) (mk a i) = some (foldE f out a r)
  | [], i, a, hr, hi, hP => by
    have : i = l.length := by have := congrArg List.length hr; simp at this; omega
    subst this
    exact loopN_out (hend a hP)
  | x :: r, i, a, hr, hi, hP => by
    have h := hgo i x r a hr hP
    have hlt : i < l.length := by
      rcases Nat.lt_or_ge i l.length with h1 | h1
      · exact h1
      · rw [List.drop_of_length_le h1] at hr; cases hr
    have hr' : l.drop (i + 1) = r := by rw [List.drop_eq_getElem_cons hlt] at hr; cases hr; rfl
    simp only [foldE]
    cases hf : f a x with
    | inl a' =>
      rw [hf] at h
      obtain ⟨h1, h2⟩ := h
      rw [List.length_cons, loopN_go h1]
      exact loop_fold mk l f out P hgo hend r (i + 1) a' hr' hlt h2
    | inr e =>
      rw [hf] at h
      rw [List.length_cons]
      exact loopN_out h
/-- the same from the beginning -/
theorem loop_all {S E A X : Type} {step : S → Option (S ⊕ E)} (mk : A → Nat → S) (l : List X) (f : A → X → A ⊕ E) (out : A → E) (P : A → List X → Prop) (a : A)
    (hl : l.length < 1000000000000) (hP : P a l)
    (hgo : ∀ i x r a, l.drop i = x :: r → P a (x :: r) → match f a x with | .inl a' => step (mk a i) = some (.inl (mk a' (i + 1))) ∧ P a' r | .inr e => step (mk a i) = some (.inr e))
    (hend : ∀ a, P a [] → step (mk a l.length) = some (.inr (out a))) : Lp.loop step (mk a 0) = some (foldE f out a l) :=
  loop_of (loop_fold mk l f out P hgo hend l 0 a rfl (Nat.zero_le _) hP) (by omega)
theorem getI_drop {α : Type} {xs : List α} {i : Nat} {x : α} {r : List α} (h : xs.drop i = x :: r) : getI xs (i : Int) = some x ∧ i < xs.length ∧ x ∈ xs := by
  have hi : i < xs.length := by
    rcases Nat.lt_or_ge i xs.length with h1 | h1
    · exact h1
    · rw [List.drop_of_length_le h1] at h; cases h
  rw [List.drop_eq_getElem_cons hi] at h
  cases h
  exact ⟨by rw [getI_nat]; exact List.getElem?_eq_getElem hi, hi, List.getElem_mem hi⟩
theorem wrap1 {i : Nat} (h : i < 1000000000000) : IntKind.wrap .i64 ((i : Int) + 1) = ((i + 1 : Nat) : Int) := by rw [wrap_i64 (by omega) (by omega)]; rfl

abbrev Data := T_api_Data
mutual
def deepD : Data → Nat
  | ⟨_, _, _, _, l⟩ => deepL l + 1
def deepL : List Data → Nat
  | [] => 0
  | x :: r => max (deepD x) (deepL r)
end
mutual
def bulkD : Data → Nat
  | ⟨_, _, s, ks, l⟩ => s.length + (ks.map fun k => k.length + 1).sum + bulkL l + 5
def bulkL : List Data → Nat
  | [] => 0
  | x :: r => bulkD x + bulkL r
end
theorem deepD_eq (x : Data) : deepD x = deepL x.L + 1 := by cases x; simp [deepD]
theorem bulkD_eq (x : Data) : bulkD x = x.S.length + (x.Keys.map fun k => k.length + 1).sum + bulkL x.L + 5 := by cases x; simp [bulkD]
theorem mem_deepL {x : Data} : ∀ {l : List Data}, x ∈ l → deepD x ≤ deepL l
  | y :: r, h => by
    simp only [deepL]
    rcases List.mem_cons.1 h with rfl | h
    · omega
    · have := mem_deepL h; omega
theorem mem_bulkL {x : Data} : ∀ {l : List Data}, x ∈ l → bulkD x ≤ bulkL l
  | y :: r, h => by
    simp only [bulkL]
    rcases List.mem_cons.1 h with rfl | h
    · omega
    · have := mem_bulkL h; omega
theorem len_bulkL : ∀ l : List Data, l.length ≤ bulkL l
  | [] => by simp
  | x :: r => by simp only [bulkL, List.length_cons]; have := len_bulkL r; have := bulkD_eq x; omega
mutual
theorem deep_bulk : ∀ x : Data, deepD x ≤ bulkD x
  | ⟨_, _, _, _, l⟩ => by simp only [deepD, bulkD]; have := deep_bulkL l; omega
theorem deep_bulkL : ∀ l : List Data, deepL l ≤ bulkL l
  | [] => by simp [deepL]
  | x :: r => by simp only [deepL, bulkL]; have := deep_bulk x; have := deep_bulkL r; omega
end
theorem len_sum1 : ∀ l : List Str, l.length ≤ (l.map fun s => s.length + 1).sum
  | [] => by simp
  | x :: r => by simp only [List.length_cons, List.map_cons, List.sum_cons]; have := len_sum1 r; omega
theorem mem_sum1 {s : Str} : ∀ {l : List Str}, s ∈ l → s.length ≤ (l.map fun s => s.length + 1).sum
  | y :: r, h => by
    simp only [List.map_cons, List.sum_cons]
    rcases List.mem_cons.1 h with rfl | h
    · omega
    · have := mem_sum1 h; omega
end Go.D13


/- Chapter 13, plainly: which data may be. -/
namespace Go.D13
open Go Go.Gw Go.Dn
set_option linter.unusedSimpArgs false
set_option linter.unusedVariables false

def evenP (s : Str) : Bool := s.length % 2 == 0
theorem units_Check_eq (s : Str) (hs : s.length ≤ 1000000000) : units_Check s = some (evenP s, ()) := by
  have h : (BitVec.ofInt 64 ((s.length : Nat) : Int) &&& BitVec.ofInt 64 1).toNat = s.length % 2 := by
    rw [BitVec.toNat_and]
    have h1 : (BitVec.ofInt 64 ((s.length : Nat) : Int)).toNat = s.length := by
      rw [BitVec.toNat_ofInt]; omega
    have h2 : (BitVec.ofInt 64 1).toNat = 1 := rfl
    rw [h1, h2, Nat.and_one_is_mod]
  unfold units_Check evenP
  simp only [h]
  rw [wrap_i64 (by omega) (by omega)]
  congr 2
  rw [Bool.eq_iff_iff, beq_iff_eq, beq_iff_eq]
  omega
/-! ### a set of keys -/
abbrev eqS : Str → Str → Bool := fun a b => a == b
def keysM (m : MapD Str Int) : List Str := m.es.map (·.1)
theorem pos_keys {k : Str} : ∀ {l : List (Str × Int × Nat)}, (MapD.pos eqS k l).isSome = (l.map (·.1)).contains k
  | [] => rfl
  | x :: r => by
    simp only [MapD.pos, List.map_cons, List.contains_cons]
    cases hb : eqS k x.1 with
    | true => have : (k == x.1) = true := hb; simp [this]
    | false =>
      have : (k == x.1) = false := hb
      rw [this, Bool.false_or, ← pos_keys (l := r)]
      simp only [cond_false]
      cases MapD.pos eqS k r <;> rfl
theorem modify_keys {f : Str × Int × Nat → Str × Int × Nat} (hf : ∀ x, (f x).1 = x.1) : ∀ {l : List (Str × Int × Nat)} {j : Nat}, (l.modify j f).map (·.1) = l.map (·.1)
  | [], j => by cases j <;> rfl
  | x :: r, 0 => by simp [List.modify_zero_cons, hf]
  | x :: r, j + 1 => by simp [List.modify_succ_cons, modify_keys hf]
theorem put_keys (m : MapD Str Int) (k : Str) (v : Int) : keysM (MapD.put eqS m k v) = if (keysM m).contains k then keysM m else keysM m ++ [k] := by
  unfold keysM
  rw [← pos_keys]
  unfold MapD.put
  cases MapD.pos eqS k m.es with
  | none => simp
  | some j => simp [modify_keys]
/-- keys put in one after another -/
def seenP : List Str → List Str → List Str
  | a, [] => a
  | a, k :: r => seenP (if a.contains k then a else a ++ [k]) r
theorem seenP_len : ∀ (ks a : List Str), (seenP a ks).length ≤ a.length + ks.length
  | [], a => by simp [seenP]
  | k :: r, a => by
    simp only [seenP, List.length_cons]
    refine Nat.le_trans (seenP_len r _) ?_
    split
    · omega
    · simp; omega
def dupP : List Str → List Str → Bool
  | _, [] => false
  | a, k :: r => a.contains k || dupP (a ++ [k]) r
theorem seenP_dup : ∀ (ks a : List Str), ((seenP a ks).length == a.length + ks.length) = !dupP a ks
  | [], a => by simp [seenP, dupP]
  | k :: r, a => by
    simp only [seenP, dupP, List.length_cons]
    cases ha : a.contains k with
    | true =>
      have := seenP_len r a
      simp only [if_true, Bool.true_or, Bool.not_true, beq_eq_false_iff_ne]
      omega
    | false =>
      have := seenP_dup r (a ++ [k])
      simp only [Bool.false_eq_true, if_false, Bool.false_or]
      rw [← this]
      simp only [List.length_append, List.length_cons, List.length_nil]
      congr 1
      omega
def namesF (ks : List Str) (m : MapD Str Int) (k : Str) : MapD Str Int ⊕ (Bool × Unit) := if evenP k then .inl (MapD.put eqS m k (IntKind.wrap .i64 ((MapD.entV eqS m k 0).1 + 1))) else .inr (false, ())
def namesO (v : Data) (m : MapD Str Int) : Bool × Unit := ((((m.es.length : Nat) : Int) == ((v.Keys.length : Nat) : Int)) && (((v.Keys.length : Nat) : Int) == ((v.L.length : Nat) : Int)), ())
theorem names_fold (v : Data) (ks : List Str) : ∀ (r : List Str) (m : MapD Str Int), foldE (namesF ks) (namesO v) m r = (r.all evenP && ((seenP (keysM m) r).length == v.Keys.length) && (v.Keys.length == v.L.length), ())
  | [], m => by
    simp only [foldE, namesO, List.all_nil, Bool.true_and, seenP, keysM, List.length_map]
    congr 1
    congr 1
    · rw [Bool.eq_iff_iff, beq_iff_eq, beq_iff_eq]; omega
    · rw [Bool.eq_iff_iff, beq_iff_eq, beq_iff_eq]; omega
  | k :: r, m => by
    simp only [foldE, namesF, List.all_cons]
    cases he : evenP k with
    | true =>
      simp only [if_true, Bool.true_and]
      rw [names_fold v ks r, put_keys]
      simp only [seenP]
    | false => simp
def keysP (v : Data) : Bool := v.Keys.all evenP && !dupP [] v.Keys && (v.Keys.length == v.L.length)
theorem names_eq (v : Data) (hb : bulkD v ≤ 1048576) : data_names v = some (keysP v, ()) := by
  have hbe := bulkD_eq v
  have hl := len_sum1 v.Keys
  have h := loop_all (step := data_names_l1) (fun (m : MapD Str Int) i => (v.Keys, ((v.Keys.length : Nat) : Int), (i : Int), v, m, ())) v.Keys (namesF v.Keys) (namesO v) (fun _ _ => True) ⟨[], 0⟩ (by omega) trivial
    (fun i x r m hr _ => by
      obtain ⟨h1, h2, h3⟩ := getI_drop hr
      have hlen := mem_sum1 h3
      have hi : ((i : Int) < ((v.Keys.length : Nat) : Int)) := by omega
      unfold namesF
      cases he : evenP x with
      | true =>
        simp only [if_true]
        refine ⟨?_, trivial⟩
        simp only [data_names_l1, hi, decide_true, if_true, h1, Option.bind_some, units_Check_eq x (by omega), he, Bool.not_true, Bool.false_eq_true, if_false, re25_eq]
        rw [wrap1 (by omega)]
      | false =>
        simp only [Bool.false_eq_true, if_false]
        simp only [data_names_l1, hi, decide_true, if_true, h1, Option.bind_some, units_Check_eq x (by omega), he, Bool.not_false])
    (fun m _ => by
      have hi : ¬ (((v.Keys.length : Nat) : Int) < ((v.Keys.length : Nat) : Int)) := by omega
      simp only [data_names_l1, hi, decide_false, Bool.false_eq_true, if_false]
      rfl)
  unfold data_names
  rw [re25_eq]
  refine h.trans ?_
  rw [names_fold]
  unfold keysP
  have := seenP_dup v.Keys []
  simp only [List.length_nil, Nat.zero_add] at this
  rw [show keysM ⟨[], 0⟩ = [] from rfl, this]
/-! ### what may be -/
def ownD (v : Data) : Bool :=
  if (v.Kind == 0) = true then v.N == 0 && v.S == [] && v.Keys.isEmpty && v.L.isEmpty
  else if (v.Kind == 1) = true then v.N == 0 && v.S == [] && v.Keys.isEmpty && v.L.isEmpty
  else if (v.Kind == 2) = true then (v.N == 0 || v.N == 1) && v.S == [] && v.Keys.isEmpty && v.L.isEmpty
  else if (v.Kind == 3) = true then decide (-9007199254740991 ≤ v.N) && decide (v.N ≤ 9007199254740991) && v.S == [] && v.Keys.isEmpty && v.L.isEmpty
  else if (v.Kind == 4) = true then v.N == 0 && evenP v.S && v.Keys.isEmpty && v.L.isEmpty
  else if (v.Kind == 5) = true then v.N == 0 && v.S == [] && v.Keys.isEmpty
  else if (v.Kind == 6) = true then v.N == 0 && v.S == [] && keysP v
  else false
mutual
def mayD : Data → Bool
  | ⟨k, n, s, ks, l⟩ => ownD ⟨k, n, s, ks, l⟩ && mayL l
def mayL : List Data → Bool
  | [] => true
  | x :: r => mayD x && mayL r
end
theorem mayD_eq (v : Data) : mayD v = (ownD v && mayL v.L) := by cases v; simp [mayD]
theorem mayL_all : ∀ l : List Data, mayL l = l.all mayD
  | [] => by simp [mayL]
  | x :: r => by simp [mayL, mayL_all r]
theorem mayL_mem {l : List Data} (h : mayL l = true) {x : Data} (hx : x ∈ l) : mayD x = true := by rw [mayL_all, List.all_eq_true] at h; exact h x hx
theorem isE {α : Type} (l : List α) : (((l.length : Nat) : Int) == 0) = l.isEmpty := by
  cases l with
  | nil => rfl
  | cons a r => simp only [List.length_cons, List.isEmpty_cons, beq_eq_false_iff_ne]; omega
def levelP (v : Data) : Nat := if mayD v then deepD v else 0
def levF (m : Nat) (x : Data) : Nat ⊕ (Int × Unit) := if mayD x then .inl (max m (deepD x + 1)) else .inr (0, ())
theorem lev_fold : ∀ (r : List Data) (m : Nat), foldE levF (fun m => ((m : Int), ())) m r = (((if mayL r then max m (if r.isEmpty then 0 else deepL r + 1) else 0 : Nat) : Int), ())
  | [], m => by simp [foldE, mayL]
  | x :: r, m => by
    simp only [mayL]
    by_cases hx : mayD x = true
    · rw [foldE_inl (a' := max m (deepD x + 1)) (by unfold levF; rw [if_pos hx]), lev_fold r]
      simp only [hx, Bool.true_and]
      cases hr : mayL r with
      | true =>
        simp only [if_true, List.isEmpty_cons, Bool.false_eq_true, if_false, deepL]
        cases r with
        | nil => simp [deepL]
        | cons y q => simp only [List.isEmpty_cons, Bool.false_eq_true, if_false]; congr 2; omega
      | false => simp
    · rw [foldE_inr (e := (0, ())) (by unfold levF; rw [if_neg hx])]
      have : mayD x = false := by simpa using hx
      simp [this]
theorem level_j1 (g : Rec_data_level) (v : Data) (lo hi : Int) (t b k : Bool) (hb : bulkD v ≤ 1048576) (hg : ∀ x ∈ v.L, g.data_level x = some ((levelP x : Int), ())) (he : (decide (lo ≤ v.N) && decide (v.N ≤ hi) && t && b && k) = ownD v) :
    data_level_j1 g lo hi t b k v = some ((levelP v : Int), ()) := by
  have hbe := bulkD_eq v
  have hlen := len_bulkL v.L
  unfold data_level_j1 levelP
  rw [mayD_eq, ← he]
  have hc : ((((decide (v.N < lo) || decide (v.N > hi)) || !t) || !b) || !k) = !(decide (lo ≤ v.N) && decide (v.N ≤ hi) && t && b && k) := by
    have e1 : decide (v.N < lo) = !decide (lo ≤ v.N) := by rw [Bool.eq_iff_iff]; simp
    have e2 : decide (v.N > hi) = !decide (v.N ≤ hi) := by rw [Bool.eq_iff_iff]; simp
    rw [e1, e2]
    cases decide (lo ≤ v.N) <;> cases decide (v.N ≤ hi) <;> cases t <;> cases b <;> cases k <;> rfl
  simp only [hc]
  cases ho : (decide (lo ≤ v.N) && decide (v.N ≤ hi) && t && b && k) with
  | false => simp
  | true =>
    simp only [Bool.not_true, Bool.false_eq_true, if_false, Bool.true_and]
    have h := loop_all (step := data_level_l2 g) (fun (m : Nat) i => ((m : Int), v.L, ((v.L.length : Nat) : Int), (i : Int), ())) v.L levF (fun m => ((m : Int), ())) (fun m _ => m ≤ 2000000) 1 (by omega) (by omega)
      (fun i x r m hr hm => by
        obtain ⟨h1, h2, h3⟩ := getI_drop hr
        have hi : ((i : Int) < ((v.L.length : Nat) : Int)) := by omega
        have hd := deep_bulk x
        have hbx := mem_bulkL h3
        unfold levF
        cases hx : mayD x with
        | true =>
          simp only [if_true]
          refine ⟨?_, by omega⟩
          have hlx : levelP x = deepD x := by unfold levelP; rw [if_pos hx]
          have hpos := deepD_eq x
          have h0 : (((deepD x : Nat) : Int) == 0) = false := by rw [beq_eq_false_iff_ne]; omega
          simp only [data_level_l2, hi, decide_true, if_true, h1, Option.bind_some, re25_eq, hg x h3, hlx, h0, Bool.false_eq_true, if_false]
          rw [wrap1 (by omega), wrap1 (by omega)]
          congr 3
          split <;> omega
        | false =>
          simp only [Bool.false_eq_true, if_false]
          have hlx : levelP x = 0 := by unfold levelP; rw [hx]; rfl
          simp only [data_level_l2, hi, decide_true, if_true, h1, Option.bind_some, re25_eq, hg x h3, hlx]
          rfl)
      (fun m _ => by
        have hi : ¬ (((v.L.length : Nat) : Int) < ((v.L.length : Nat) : Int)) := by omega
        simp only [data_level_l2, hi, decide_false, Bool.false_eq_true, if_false])
    refine h.trans ?_
    rw [lev_fold, deepD_eq]
    cases hm : mayL v.L with
    | false => simp
    | true =>
      cases hl : v.L with
      | nil => simp [deepL]
      | cons y q => simp only [if_true, List.isEmpty_cons, Bool.false_eq_true, if_false]; congr 3 <;> omega
theorem data_level_n : ∀ (n : Nat) (v : Data), deepD v ≤ n → bulkD v ≤ 1048576 → (Rec_data_level_g n).data_level v = some ((levelP v : Int), ())
  | 0, v, h, _ => by have := deepD_eq v; omega
  | n + 1, v, h, hb => by
    have hbe := bulkD_eq v
    have hde := deepD_eq v
    have hg : ∀ x ∈ v.L, (Rec_data_level_g n).data_level x = some ((levelP x : Int), ()) := fun x hx => data_level_n n x (by have := mem_deepL hx; omega) (by have := mem_bulkL hx; omega)
    show data_level_b (Rec_data_level_g n) v = _
    have zero : ∀ n : Int, (decide (0 ≤ n) && decide (n ≤ 0)) = (n == 0) := fun n => by rw [Bool.eq_iff_iff]; simp; omega
    have one : ∀ n : Int, (decide (0 ≤ n) && decide (n ≤ 1)) = (n == 0 || n == 1) := fun n => by rw [Bool.eq_iff_iff]; simp; omega
    have perm : ∀ a b c d : Bool, (a && b && c && d) = (a && b && d && c) := by decide
    unfold data_level_b
    simp only [isE, re25_eq]
    cases h0 : v.Kind == 0 with
    | true => simp only [if_true]; exact level_j1 _ v _ _ _ _ _ hb hg (by unfold ownD; rw [h0]; simp only [if_true, zero]; exact perm _ _ _ _)
    | false =>
      simp only [Bool.false_eq_true, if_false]
      cases h1 : v.Kind == 1 with
      | true => simp only [if_true]; exact level_j1 _ v _ _ _ _ _ hb hg (by unfold ownD; rw [h0, h1]; simp only [Bool.false_eq_true, if_false, if_true, zero]; exact perm _ _ _ _)
      | false =>
        simp only [Bool.false_eq_true, if_false]
        cases h2 : v.Kind == 2 with
        | true => simp only [if_true]; exact level_j1 _ v _ _ _ _ _ hb hg (by unfold ownD; rw [h0, h1, h2]; simp only [Bool.false_eq_true, if_false, if_true, one]; exact perm _ _ _ _)
        | false =>
          simp only [Bool.false_eq_true, if_false]
          cases h3 : v.Kind == 3 with
          | true => simp only [if_true]; exact level_j1 _ v _ _ _ _ _ hb hg (by unfold ownD; rw [h0, h1, h2, h3]; simp only [Bool.false_eq_true, if_false, if_true]; cases decide (-9007199254740991 ≤ v.N) <;> cases decide (v.N ≤ 9007199254740991) <;> cases v.S == [] <;> cases v.Keys.isEmpty <;> cases v.L.isEmpty <;> rfl)
          | false =>
            simp only [Bool.false_eq_true, if_false]
            cases h4 : v.Kind == 4 with
            | true => simp only [if_true]; rw [units_Check_eq v.S (by omega)]; exact level_j1 _ v _ _ _ _ _ hb hg (by unfold ownD; rw [h0, h1, h2, h3, h4]; simp only [Bool.false_eq_true, if_false, if_true, zero]; exact perm _ _ _ _)
            | false =>
              simp only [Bool.false_eq_true, if_false]
              cases h5 : v.Kind == 5 with
              | true => simp only [if_true]; exact level_j1 _ v _ _ _ _ _ hb hg (by unfold ownD; rw [h0, h1, h2, h3, h4, h5]; simp only [Bool.false_eq_true, if_false, if_true, zero, Bool.and_true])
              | false =>
                simp only [Bool.false_eq_true, if_false]
                cases h6 : v.Kind == 6 with
                | true => simp only [if_true]; rw [names_eq v hb]; exact level_j1 _ v _ _ _ _ _ hb hg (by unfold ownD; rw [h0, h1, h2, h3, h4, h5, h6]; simp only [Bool.false_eq_true, if_false, if_true, zero, Bool.and_true])
                | false =>
                  simp only [Bool.false_eq_true, if_false]
                  have : mayD v = false := by rw [mayD_eq]; unfold ownD; rw [h0, h1, h2, h3, h4, h5, h6]; rfl
                  unfold levelP
                  rw [this]
                  rfl
def checkP (v : Data) : Int := if mayD v then (if 20 < deepD v then 31 else 0) else 30
theorem data_Check_eq (v : Data) (hb : bulkD v ≤ 1048576) : data_Check v = some (checkP v, ()) := by
  have hd := deep_bulk v
  have h : data_level v = some ((levelP v : Int), ()) := data_level_n _ v (by show deepD v ≤ 1000000000000; omega) hb
  unfold data_Check checkP
  rw [re25_eq, h]
  simp only [Option.bind_some, levelP]
  have hde := deepD_eq v
  cases hm : mayD v with
  | false => simp
  | true =>
    simp only [if_true]
    have h0 : (((deepD v : Nat) : Int) == 0) = false := by rw [beq_eq_false_iff_ne]; omega
    rw [h0]
    simp only [Bool.false_eq_true, if_false]
    by_cases h20 : 20 < deepD v
    · have : (((deepD v : Nat) : Int) > 20) := by omega
      simp [this, h20]
    · have : ¬ (((deepD v : Nat) : Int) > 20) := by omega
      simp [this, h20]
end Go.D13


/- Chapter 13, plainly: the document's answer as to which data may be. -/
namespace Go.D13
open Go Go.Gw Go.Dn
set_option linter.unusedSimpArgs false
set_option linter.unusedVariables false

end Go.D13


/- Chapter 13, plainly: units; what a string, and a number, is written as. -/
namespace Go.D13
open Go Go.Gw Go.Dn
set_option linter.unusedSimpArgs false
set_option linter.unusedVariables false
set_option maxRecDepth 100000

def unitsL : Str → List Nat
  | a :: b :: r => (a.toNat * 256 + b.toNat) :: unitsL r
  | _ => []
theorem unitsL_length : ∀ u : Str, (unitsL u).length = u.length / 2
  | [] => rfl
  | [_] => by simp [unitsL]
  | a :: b :: r => by simp only [unitsL, List.length_cons, unitsL_length r]; omega
theorem unitsL_lt : ∀ (u : Str) (n : Nat), n ∈ unitsL u → n < 65536
  | [], _, h => by cases h
  | [_], _, h => by cases h
  | a :: b :: r, n, h => by
    simp only [unitsL, List.mem_cons] at h
    rcases h with h | h
    · have := a.toNat_lt; have := b.toNat_lt; omega
    · exact unitsL_lt r n h
theorem unitsL_get : ∀ (u : Str) (i : Nat), i < u.length / 2 → ∃ a b, u[2 * i]? = some a ∧ u[2 * i + 1]? = some b ∧ (unitsL u)[i]? = some (a.toNat * 256 + b.toNat)
  | [], i, h => by simp at h
  | [_], i, h => by simp at h
  | a :: b :: r, 0, _ => ⟨a, b, rfl, rfl, rfl⟩
  | a :: b :: r, i + 1, h => by
    obtain ⟨x, y, h1, h2, h3⟩ := unitsL_get r i (by simp only [List.length_cons] at h; omega)
    refine ⟨x, y, ?_, ?_, ?_⟩
    · have : 2 * (i + 1) = 2 * i + 1 + 1 := by omega
      rw [this]; simpa using h1
    · have : 2 * (i + 1) + 1 = 2 * i + 1 + 1 + 1 := by omega
      rw [this]; simpa using h2
    · simpa [unitsL] using h3
theorem unitsL_append : ∀ (u v : Str), u.length % 2 = 0 → unitsL (u ++ v) = unitsL u ++ unitsL v
  | [], v, _ => rfl
  | [_], v, h => by simp at h
  | a :: b :: r, v, h => by simp only [List.cons_append, unitsL, unitsL_append r v (by simp only [List.length_cons] at h; omega)]
def unit2 (n : Nat) : Str := [UInt8.ofNat (n / 256), UInt8.ofNat (n % 256)]
theorem unitsL_unit2 (n : Nat) (h : n < 65536) : unitsL (unit2 n) = [n] := by
  simp only [unit2, unitsL]
  congr 1
  rw [UInt8.toNat_ofNat', UInt8.toNat_ofNat']
  omega
theorem units_Len_eq (u : Str) (h : u.length < 9223372036854775808) : units_Len u = some (((u.length / 2 : Nat) : Int), ()) := by
  unfold units_Len
  have : Int.tdiv ((u.length : Nat) : Int) 2 = ((u.length / 2 : Nat) : Int) := rfl
  rw [this, wrap_i64 (by omega) (by omega)]
def unitAt (u : Str) (i : Int) : Int := if 0 ≤ i then (match (unitsL u)[i.toNat]? with | some n => (n : Int) | none => -1) else -1
theorem or_byte64 (x y : Nat) (hx : x < 256) (hy : y < 256) : IntKind.wrap .i64 ((BitVec.ofInt 64 (IntKind.wrap .i64 ((IntKind.wrap .i64 (x : Int)) * 2 ^ 8)) ||| BitVec.ofInt 64 (IntKind.wrap .i64 (y : Int))).toNat) = ((x * 256 + y : Nat) : Int) := by
  have e1 : IntKind.wrap .i64 (x : Int) = (x : Int) := wrap_i64 (by omega) (by omega)
  have e2 : IntKind.wrap .i64 (y : Int) = (y : Int) := wrap_i64 (by omega) (by omega)
  have e3 : ((x : Int) * 2 ^ 8) = ((x * 256 : Nat) : Int) := by simp
  rw [e1, e2, e3, wrap_i64 (n := ((x * 256 : Nat) : Int)) (by omega) (by omega), BitVec.toNat_or]
  have e4 : (BitVec.ofInt 64 ((x * 256 : Nat) : Int)).toNat = x * 256 := by rw [BitVec.ofInt_natCast, BitVec.toNat_ofNat]; omega
  have e5 : (BitVec.ofInt 64 (y : Int)).toNat = y := by rw [BitVec.ofInt_natCast, BitVec.toNat_ofNat]; omega
  rw [e4, e5]
  have e6 : x * 256 ||| y = x * 256 + y := by
    have := Nat.shiftLeft_add_eq_or_of_lt (b := y) (i := 8) hy x
    rw [Nat.shiftLeft_eq] at this
    exact this.symm
  rw [e6, wrap_i64 (by omega) (by omega)]
theorem units_At_eq (u : Str) (i : Int) (h : u.length < 4611686018427387904) : units_At u i = some (unitAt u i, ()) := by
  unfold units_At unitAt
  by_cases h0 : i < 0
  · have : ¬ 0 ≤ i := by omega
    simp [h0, this]
  · have h0' : 0 ≤ i := by omega
    rw [units_Len_eq u (by omega)]
    by_cases h1 : i ≥ ((u.length / 2 : Nat) : Int)
    · have : (unitsL u)[i.toNat]? = none := List.getElem?_eq_none (by rw [unitsL_length]; omega)
      simp only [h0, decide_false, Bool.false_eq_true, if_false, Option.bind_some, h1, decide_true, if_true, h0', this]
    · obtain ⟨k, rfl⟩ : ∃ k : Nat, i = k := ⟨i.toNat, by omega⟩
      obtain ⟨a, b, e1, e2, e3⟩ := unitsL_get u k (by omega)
      have w1 : IntKind.wrap .i64 (2 * (k : Int)) = ((2 * k : Nat) : Int) := by rw [wrap_i64 (by omega) (by omega)]; omega
      have w2 : IntKind.wrap .i64 (((2 * k : Nat) : Int) + 1) = ((2 * k + 1 : Nat) : Int) := by rw [wrap_i64 (by omega) (by omega)]; omega
      simp only [h0, decide_false, Bool.false_eq_true, if_false, Option.bind_some, h1, h0', if_true, w1, w2, getB_nat, e1, e2, Option.map_some, or_byte64 _ _ a.toNat_lt b.toNat_lt, Int.toNat_natCast, e3]
theorem unitAt_nat (u : Str) (k n : Nat) (h : (unitsL u)[k]? = some n) : unitAt u (k : Int) = (n : Int) := by
  unfold unitAt; rw [if_pos (by omega)]; simp [h]
theorem unitAt_end (u : Str) (k : Nat) (h : (unitsL u).length ≤ k) : unitAt u (k : Int) = -1 := by
  unfold unitAt; rw [if_pos (by omega)]; simp [List.getElem?_eq_none h]
/-- one unit cut out -/
theorem units_Cut_one (u : Str) (k n : Nat) (hu : u.length ≤ 1000000000) (h : (unitsL u)[k]? = some n) : units_Cut u (k : Int) ((k + 1 : Nat) : Int) = some (unit2 n, ()) := by
  have hk : k < u.length / 2 := by rw [← unitsL_length]; exact (List.getElem?_eq_some_iff.1 h).1
  obtain ⟨a, b, e1, e2, e3⟩ := unitsL_get u k hk
  rw [h] at e3
  cases e3
  unfold units_Cut
  rw [units_Len_eq u (by omega)]
  simp only [Option.bind_some]
  have c1 : (if ((u.length / 2 : Nat) : Int) < ((k + 1 : Nat) : Int) then ((u.length / 2 : Nat) : Int) else ((k + 1 : Nat) : Int)) = ((k + 1 : Nat) : Int) := by split <;> omega
  have c2 : (if (0 : Int) > (k : Int) then (0 : Int) else (k : Int)) = (k : Int) := by split <;> omega
  have c3 : ¬ ((k : Int) ≥ ((k + 1 : Nat) : Int)) := by omega
  have w1 : IntKind.wrap .i64 (2 * (k : Int)) = ((2 * k : Nat) : Int) := by rw [wrap_i64 (by omega) (by omega)]; omega
  have w2 : IntKind.wrap .i64 (2 * ((k + 1 : Nat) : Int)) = ((2 * k + 2 : Nat) : Int) := by rw [wrap_i64 (by omega) (by omega)]; omega
  simp only [c1, c2, c3, decide_false, Bool.false_eq_true, if_false, w1, w2]
  rw [cutL_nat u _ _ (by omega) (by omega)]
  simp only [Option.bind_some]
  congr 2
  have hd : u.drop (2 * k) = a :: b :: u.drop (2 * k + 2) := by
    have l1 := (List.getElem?_eq_some_iff.1 e1)
    have l2 := (List.getElem?_eq_some_iff.1 e2)
    rw [List.drop_eq_getElem_cons l1.1, l1.2, List.drop_eq_getElem_cons l2.1, l2.2]
  rw [hd, show 2 * k + 2 - 2 * k = 2 by omega]
  have ha := a.toNat_lt; have hb := b.toNat_lt
  show [a, b] = unit2 _
  unfold unit2
  have d1 : (a.toNat * 256 + b.toNat) / 256 = a.toNat := by omega
  have d2 : (a.toNat * 256 + b.toNat) % 256 = b.toNat := by omega
  rw [d1, d2, UInt8.ofNat_toNat, UInt8.ofNat_toNat]

/-- a plain text as units -/
def plainU (s : Str) : Str := s.flatMap fun c => [0, c]
theorem plainU_cons (c : UInt8) (r : Str) : plainU (c :: r) = 0 :: c :: plainU r := rfl
theorem plainU_length : ∀ s : Str, (plainU s).length = 2 * s.length
  | [] => rfl
  | c :: r => by rw [plainU_cons]; simp only [List.length_cons, plainU_length r]; omega
theorem unitsL_plainU : ∀ s : Str, unitsL (plainU s) = s.map (·.toNat)
  | [] => rfl
  | c :: r => by rw [plainU_cons]; simp only [unitsL, List.map_cons, unitsL_plainU r]; congr 1; simp
theorem write_byte (b : UInt8) (l : Str) (hl : l.length ≤ 200000000000) : strings_Builder_WriteByte ((b.toNat : Nat) : Int) l = some (GErr.nil, l ++ [b], ()) := by
  unfold strings_Builder_WriteByte
  rw [toB_of]
  simp only [Option.bind_some]
  rw [room_ok (by simp; omega)]
  rfl
theorem plain_eq (s l : Str) (hl : l.length + 2 * s.length ≤ 200000000000) (hs : s.length ≤ 1000000000) : json_writer_plain s l = some (l ++ plainU s, ()) := by
  have h := loop_all (step := json_writer_plain_l1) (fun (a : Str) i => (s, ((s.length : Nat) : Int), (i : Int), a, ())) s (fun a c => .inl (a ++ [0, c])) (fun a => (a, ())) (fun a r => a.length + 2 * r.length ≤ 200000000000) l (by omega) hl
    (fun i c r a hr ha => by
      obtain ⟨h1, h2, h3⟩ := getI_drop hr
      have hi : ((i : Int) < ((s.length : Nat) : Int)) := by omega
      simp only [List.length_cons] at ha
      have hc : getB s (i : Int) = some ((c.toNat : Nat) : Int) := by rw [getB_nat]; rw [getI_nat] at h1; rw [h1]; rfl
      have w0 := write_byte 0 a (by omega)
      have w1 := write_byte c (a ++ [0]) (by simp; omega)
      refine ⟨?_, by simp only [List.length_append, List.length_cons, List.length_nil]; omega⟩
      simp only [json_writer_plain_l1, hi, decide_true, if_true]
      rw [show (0 : Int) = (((0 : UInt8).toNat : Nat) : Int) from rfl, w0]
      simp only [Option.bind_some, hc, w1]
      rw [wrap1 (by omega)]
      simp)
    (fun a _ => by
      have hi : ¬ (((s.length : Nat) : Int) < ((s.length : Nat) : Int)) := by omega
      simp only [json_writer_plain_l1, hi, decide_false, Bool.false_eq_true, if_false])
  unfold json_writer_plain
  refine h.trans ?_
  have fold : ∀ (r a : Str), foldE (fun (a : Str) (c : UInt8) => (.inl (a ++ [0, c]) : Str ⊕ (Str × Unit))) (fun a => (a, ())) a r = (a ++ plainU r, ()) := by
    intro r
    induction r with
    | nil => intro a; simp [foldE, plainU]
    | cons c r ih => intro a; rw [foldE_inl rfl, ih, plainU_cons]; simp
  rw [fold]

/-! ### a string's literal -/
def hexd (k : Nat) : UInt8 := if k < 10 then UInt8.ofNat (48 + k) else UInt8.ofNat (87 + k)
def esc1 (n : Nat) : Option UInt8 := if n = 34 then some 34 else if n = 92 then some 92 else if n = 8 then some 98 else if n = 12 then some 102 else if n = 10 then some 110 else if n = 13 then some 114 else if n = 9 then some 116 else none
def quoteJ1 (n : Nat) : Str := match esc1 n with
  | some c => plainU [92, c]
  | none => if n < 32 then plainU [92, 117, 48, 48, hexd (n / 16), hexd (n % 16)] else unit2 n
def quoteJ (u : Str) : Str := plainU [34] ++ ((unitsL u).flatMap quoteJ1 ++ plainU [34])
theorem quoteJ1_length (n : Nat) : (quoteJ1 n).length ≤ 12 := by
  unfold quoteJ1
  split
  · rw [plainU_length]; simp
  · split
    · rw [plainU_length]; simp
    · simp [unit2]
theorem flat_length : ∀ l : List Nat, (l.flatMap quoteJ1).length ≤ 12 * l.length
  | [] => by simp
  | n :: r => by
    simp only [List.flatMap_cons, List.length_append, List.length_cons]
    have := quoteJ1_length n; have := flat_length r; omega
theorem quoteJ_length (u : Str) : (quoteJ u).length ≤ 6 * u.length + 4 := by
  unfold quoteJ
  simp only [List.length_append, plainU_length, List.length_cons, List.length_nil]
  have := flat_length (unitsL u)
  rw [unitsL_length] at this
  omega
/-- where a sign stands among those that are written with one letter -/
def idxJ (n : Nat) : Int := if n = 34 then 0 else if n = 92 then 1 else if n = 47 then 2 else if n = 8 then 3 else if n = 12 then 4 else if n = 10 then 5 else if n = 13 then 6 else if n = 9 then 7 else -1
theorem idxJ_eq : ∀ n : Fin 128, Lib.indexByte [34, 92, 47, 8, 12, 10, 13, 9] ((n.val : Int).toNat.toUInt8) = idxJ n.val := by decide
theorem index_small (n : Nat) (h : n < 128) : strings_IndexByte [34, 92, 47, 8, 12, 10, 13, 9] (IntKind.wrap .u8 (n : Int)) = some (idxJ n, ()) := by
  unfold strings_IndexByte strings_IndexByte_x
  have : IntKind.wrap .u8 (n : Int) = (n : Int) := wrap_u8 (by omega) (by omega)
  rw [this]
  have := idxJ_eq ⟨n, h⟩
  simp only at this
  rw [this]; rfl
def H16 : Str := [48, 49, 50, 51, 52, 53, 54, 55, 56, 57, 97, 98, 99, 100, 101, 102]
theorem cut_H16 : ∀ k : Fin 16, cutL H16 (k.val : Int) ((k.val + 1 : Nat) : Int) = some [hexd k.val] := by decide
theorem and15 (x : Nat) (h : x < 32) : IntKind.wrap .i64 ((BitVec.ofInt 64 (x : Int) &&& BitVec.ofInt 64 15).toNat) = ((x % 16 : Nat) : Int) := by
  have : ∀ x : Fin 32, IntKind.wrap .i64 ((BitVec.ofInt 64 (x.val : Int) &&& BitVec.ofInt 64 15).toNat) = ((x.val % 16 : Nat) : Int) := by decide
  exact this ⟨x, h⟩
theorem str_step (u : Str) (i n : Nat) (a : Str) (hu : u.length ≤ 1000000000) (hn : (unitsL u)[i]? = some n) (ha : a.length ≤ 100000000000) :
    json_writer_str_l1 (u, (((unitsL u).length : Nat) : Int), (i : Int), a, ()) = some (.inl (u, (((unitsL u).length : Nat) : Int), ((i + 1 : Nat) : Int), a ++ quoteJ1 n, ())) := by
  have hlt : i < (unitsL u).length := (List.getElem?_eq_some_iff.1 hn).1
  have hi : ((i : Int) < (((unitsL u).length : Nat) : Int)) := by omega
  have hlen := unitsL_length u
  have hat : units_At u (i : Int) = some ((n : Int), ()) := by rw [units_At_eq u _ (by omega), unitAt_nat u i n hn]
  have hn6 : n < 65536 := unitsL_lt u n (List.mem_of_getElem? hn)
  have w1 : IntKind.wrap .i64 ((i : Int) + 1) = ((i + 1 : Nat) : Int) := wrap1 (by omega)
  have small : ∀ (j : Nat) (c : UInt8), cutL ([34, 92, 47, 98, 102, 110, 114, 116] : Str) (j : Int) ((j + 1 : Nat) : Int) = some [c] → j < 8 → json_writer_str_j2 u (i : Int) (n : Int) (j : Int) (((unitsL u).length : Nat) : Int) (i : Int) a = some (.inl (u, (((unitsL u).length : Nat) : Int), ((i + 1 : Nat) : Int), a ++ plainU [92, c], ())) := by
    intro j c hc hj
    have c1 : ((j : Int) ≥ 0) := by omega
    simp only [json_writer_str_j2, c1, decide_true, if_true]
    rw [wrap1 (by omega), hc]
    simp only [Option.bind_some]
    rw [catS_ok (by simp)]
    simp only [Option.bind_some, List.cons_append, List.nil_append]
    rw [plain_eq _ a (by simp; omega) (by simp)]
    simp only [Option.bind_some, w1]
  have big : esc1 n = none → json_writer_str_j2 u (i : Int) (n : Int) (-1) (((unitsL u).length : Nat) : Int) (i : Int) a = some (.inl (u, (((unitsL u).length : Nat) : Int), ((i + 1 : Nat) : Int), a ++ quoteJ1 n, ())) := by
    intro he
    have c1 : ¬ ((-1 : Int) ≥ 0) := by decide
    simp only [json_writer_str_j2, c1, decide_false, Bool.false_eq_true, if_false, json_writer_str_j3]
    unfold quoteJ1
    rw [he]
    simp only
    by_cases h32 : n < 32
    · have c2 : ((n : Int) < 32) := by omega
      simp only [c2, decide_true, if_true, h32, json_writer_str_j4]
      have e1 : Int.fdiv (n : Int) (2 ^ 4) = ((n / 16 : Nat) : Int) := by
        have : ∀ n : Fin 32, Int.fdiv (n.val : Int) (2 ^ 4) = ((n.val / 16 : Nat) : Int) := by decide
        exact this ⟨n, h32⟩
      have e2 := and15 n h32
      have x1 := cut_H16 ⟨n / 16, by omega⟩
      have x2 := cut_H16 ⟨n % 16, by omega⟩
      simp only [H16] at x1 x2
      rw [e1, e2, wrap1 (by omega), wrap1 (by omega), x1]
      simp only [Option.bind_some]
      rw [catS_ok (by simp)]
      simp only [Option.bind_some, List.cons_append, List.nil_append, x2]
      rw [catS_ok (by simp)]
      simp only [Option.bind_some, List.cons_append, List.nil_append]
      rw [plain_eq _ a (by simp; omega) (by simp)]
      simp only [Option.bind_some, w1]
    · have c2 : ¬ ((n : Int) < 32) := by omega
      simp only [c2, decide_false, Bool.false_eq_true, if_false, h32, w1, units_Cut_one u i n hu hn, Option.bind_some]
      unfold strings_Builder_WriteString
      rw [room_ok (by simp [unit2]; omega)]
      rfl
  simp only [json_writer_str_l1, hi, decide_true, if_true, hat, Option.bind_some]
  by_cases h128 : n < 128 ∧ n ≠ 47
  · have c1 : (decide ((n : Int) < 128) && ((n : Int) != 47)) = true := by simp; omega
    simp only [c1, if_true, index_small n h128.1, Option.bind_some]
    unfold idxJ
    by_cases g1 : n = 34
    · simp only [g1, if_true]; have := small 0 34 rfl (by omega); rw [g1] at this; simpa [quoteJ1, esc1] using this
    by_cases g2 : n = 92
    · simp only [g2]; have := small 1 92 rfl (by omega); rw [g2] at this; simpa [quoteJ1, esc1] using this
    by_cases g3 : n = 8
    · simp only [g3]; have := small 3 98 rfl (by omega); rw [g3] at this; simpa [quoteJ1, esc1] using this
    by_cases g4 : n = 12
    · simp only [g4]; have := small 4 102 rfl (by omega); rw [g4] at this; simpa [quoteJ1, esc1] using this
    by_cases g5 : n = 10
    · simp only [g5]; have := small 5 110 rfl (by omega); rw [g5] at this; simpa [quoteJ1, esc1] using this
    by_cases g6 : n = 13
    · simp only [g6]; have := small 6 114 rfl (by omega); rw [g6] at this; simpa [quoteJ1, esc1] using this
    by_cases g7 : n = 9
    · simp only [g7]; have := small 7 116 rfl (by omega); rw [g7] at this; simpa [quoteJ1, esc1] using this
    · simp only [g1, g2, h128.2, g3, g4, g5, g6, g7, if_false]
      exact big (by unfold esc1; simp [g1, g2, g3, g4, g5, g6, g7])
  · have c1 : (decide ((n : Int) < 128) && ((n : Int) != 47)) = false := by
      rw [Bool.and_eq_false_iff]
      by_cases h : n < 128
      · right; have : n = 47 := by omega
        subst this; rfl
      · left; simp; omega
    simp only [c1, Bool.false_eq_true, if_false]
    refine big ?_
    unfold esc1
    repeat rw [if_neg (by omega)]
theorem str_eq (u a : Str) (hu : u.length ≤ 10000000) (ha : a.length ≤ 1000000000) : json_writer_str u a = some (a ++ quoteJ u, ()) := by
  have hlen := unitsL_length u
  unfold json_writer_str
  rw [plain_eq _ a (by simp; omega) (by simp)]
  simp only [Option.bind_some]
  rw [units_Len_eq u (by omega), ← hlen]
  simp only [Option.bind_some]
  have h := loop_all (step := json_writer_str_l1) (fun (b : Str) i => (u, (((unitsL u).length : Nat) : Int), (i : Int), b, ())) (unitsL u) (fun b n => .inl (b ++ quoteJ1 n)) (fun b => (b ++ plainU [34], ())) (fun b r => b.length + 12 * r.length ≤ 50000000000) (a ++ plainU [34]) (by omega)
    (by simp only [List.length_append, plainU_length, List.length_cons, List.length_nil]; omega)
    (fun i n r b hr hb => by
      obtain ⟨h1, h2, h3⟩ := getI_drop hr
      rw [getI_nat] at h1
      simp only [List.length_cons] at hb
      have := quoteJ1_length n
      exact ⟨str_step u i n b (by omega) h1 (by omega), by simp only [List.length_append]; omega⟩)
    (fun b hb => by
      have hi : ¬ ((((unitsL u).length : Nat) : Int) < (((unitsL u).length : Nat) : Int)) := by omega
      simp only [json_writer_str_l1, hi, decide_false, Bool.false_eq_true, if_false]
      rw [plain_eq _ b (by simp at hb ⊢; omega) (by simp)]
      rfl)
  refine h.trans ?_
  have fold : ∀ (r : List Nat) (b : Str), foldE (fun (b : Str) (n : Nat) => (.inl (b ++ quoteJ1 n) : Str ⊕ (Str × Unit))) (fun b => (b ++ plainU [34], ())) b r = (b ++ (r.flatMap quoteJ1 ++ plainU [34]), ()) := by
    intro r
    induction r with
    | nil => intro b; simp [foldE]
    | cons n r ih => intro b; rw [foldE_inl rfl, ih]; simp
  rw [fold]
  unfold quoteJ
  simp
end Go.D13


/- Chapter 13, plainly: what data is written as. -/
namespace Go.D13
open Go Go.Gw Go.Dn
set_option linter.unusedSimpArgs false
set_option linter.unusedVariables false
set_option maxRecDepth 100000

def scalarT (v : Data) : Str := if (v.Kind == 1) = true then [110, 117, 108, 108] else if (v.Kind == 2) = true then Lib.formatBool (v.N == 1) else Lib.itoa v.N
mutual
def writeD : Data → Str
  | ⟨k, n, s, ks, l⟩ => if (k == 0) = true then plainU [110, 117, 108, 108] else if (k == 4) = true then quoteJ s else if (k == 5) = true then plainU [91] ++ (listW true l ++ plainU [93]) else if (k == 6) = true then plainU [123] ++ (recW true ks l ++ plainU [125]) else plainU (scalarT ⟨k, n, s, ks, l⟩)
def listW : Bool → List Data → Str
  | _, [] => []
  | b, x :: r => (if b then [] else plainU [44]) ++ (writeD x ++ listW false r)
def recW : Bool → List Str → List Data → Str
  | _, _, [] => []
  | b, ks, x :: r => if (x.Kind == 0) = true then recW b ks.tail r else (if b then [] else plainU [44]) ++ (quoteJ (ks.headD []) ++ (plainU [58] ++ (writeD x ++ recW false ks.tail r)))
end
theorem writeD_eq (v : Data) : writeD v = if (v.Kind == 0) = true then plainU [110, 117, 108, 108] else if (v.Kind == 4) = true then quoteJ v.S else if (v.Kind == 5) = true then plainU [91] ++ (listW true v.L ++ plainU [93]) else if (v.Kind == 6) = true then plainU [123] ++ (recW true v.Keys v.L ++ plainU [125]) else plainU (scalarT v) := by
  cases v; simp only [writeD]
theorem scalar_length (v : Data) (h0 : -9223372036854775808 ≤ v.N) (h1 : v.N ≤ 9223372036854775807) : (scalarT v).length ≤ 21 := by
  unfold scalarT
  split
  · simp
  · split
    · cases v.N == 1 <;> decide
    · exact Lib.itoa_length_le _ h0 h1
mutual
/-- its numbers are numbers of the machine -/
def okD : Data → Prop
  | ⟨k, n, _, _, l⟩ => (-9223372036854775808 ≤ k ∧ k ≤ 9223372036854775807) ∧ (-9223372036854775808 ≤ n ∧ n ≤ 9223372036854775807) ∧ okL l
def okL : List Data → Prop
  | [] => True
  | x :: r => okD x ∧ okL r
end
theorem okD_eq (v : Data) : okD v = ((-9223372036854775808 ≤ v.Kind ∧ v.Kind ≤ 9223372036854775807) ∧ (-9223372036854775808 ≤ v.N ∧ v.N ≤ 9223372036854775807) ∧ okL v.L) := by cases v; simp only [okD]
theorem okL_mem : ∀ {l : List Data} {x : Data}, okL l → x ∈ l → okD x
  | y :: r, x, h, hx => by
    simp only [okL] at h
    rcases List.mem_cons.1 hx with rfl | hx
    · exact h.1
    · exact okL_mem h.2 hx
mutual
theorem writeD_length : ∀ v : Data, okD v → (writeD v).length + 10 ≤ 12 * bulkD v
  | ⟨k, n, s, ks, l⟩, h => by
    have hq := quoteJ_length s
    have hs := scalar_length ⟨k, n, s, ks, l⟩ h.2.1.1 h.2.1.2
    have h1 := listW_length l true h.2.2
    have h2 := recW_length l true ks h.2.2
    simp only [writeD, bulkD]
    split
    · simp only [plainU_length, List.length_cons, List.length_nil]; omega
    · split
      · omega
      · split
        · simp only [List.length_append, plainU_length, List.length_cons, List.length_nil]; omega
        · split
          · simp only [List.length_append, plainU_length, List.length_cons, List.length_nil]; omega
          · rw [plainU_length]; omega
theorem listW_length : ∀ (l : List Data) (b : Bool), okL l → (listW b l).length ≤ 12 * bulkL l
  | [], b, _ => by simp [listW]
  | x :: r, b, h => by
    have h1 := writeD_length x h.1
    have h2 := listW_length r false h.2
    have c1 : ((if b then [] else plainU [44] : Str)).length ≤ 2 := by cases b <;> decide
    simp only [listW, bulkL, List.length_append]
    omega
theorem recW_length : ∀ (l : List Data) (b : Bool) (ks : List Str), okL l → (recW b ks l).length ≤ 12 * bulkL l + 12 * (ks.map fun k => k.length + 1).sum
  | [], b, ks, _ => by simp [recW]
  | x :: r, b, ks, h => by
    have h1 := writeD_length x h.1
    have hk : ((ks.tail).map fun k : Str => k.length + 1).sum + (ks.headD []).length ≤ (ks.map fun k => k.length + 1).sum := by
      cases ks with
      | nil => simp
      | cons k ks => simp only [List.tail_cons, List.headD_cons, List.map_cons, List.sum_cons]; omega
    simp only [recW, bulkL]
    split
    · have h2 := recW_length r b ks.tail h.2
      omega
    · have h2 := recW_length r false ks.tail h.2
      have hq := quoteJ_length (ks.headD [])
      have c1 : ((if b then [] else plainU [44] : Str)).length ≤ 2 := by cases b <;> decide
      simp only [List.length_append, plainU_length, List.length_cons, List.length_nil] at c1 ⊢
      omega
end
/-! ### the scalars' texts -/
theorem lay_one (s l : Str) (hl : l.length + s.length ≤ 200000000000) : data_writer_lay [s] l = some (l ++ s, ()) := by
  have h : loopN data_writer_lay_l1 2 ([s], 1, 0, l, ()) = some (l ++ s, ()) := by
    rw [loopN_go (s' := ([s], 1, 1, l ++ s, ()))]
    · exact loopN_out rfl
    · show Option.bind (strings_Builder_WriteString_v2 s l) _ = _
      unfold strings_Builder_WriteString_v2
      rw [room_ok (by omega)]
      rfl
  unfold data_writer_lay
  exact loop_of h (by omega)
theorem scalar_eq (n : Nat) (v : Data) (hk : v.Kind = 1 ∨ v.Kind = 2 ∨ v.Kind = 3) (h0 : -9223372036854775808 ≤ v.N) (h1 : v.N ≤ 9223372036854775807) : (Rec_data_writer_value_g (n + 1)).data_writer_value v [] = some (scalarT v, ()) := by
  have hs := scalar_length v h0 h1
  show data_writer_value_b (Rec_data_writer_value_g n) v [] = _
  unfold data_writer_value_b scalarT at *
  rcases hk with h | h | h
  · simp only [h] at hs ⊢
    rw [show (((1 : Int) == 0) = false) from rfl, show (((1 : Int) == 1) = true) from rfl]
    simp only [Bool.false_eq_true, if_false, if_true]
    rw [lay_one _ [] (by simp)]
    rfl
  · simp only [h] at hs ⊢
    rw [show (((2 : Int) == 0) = false) from rfl, show (((2 : Int) == 1) = false) from rfl, show (((2 : Int) == 2) = true) from rfl] at *
    simp only [Bool.false_eq_true, if_false, if_true] at hs ⊢
    have hf : strconv_FormatBool (v.N == 1) = some (Lib.formatBool (v.N == 1), ()) := rfl
    rw [hf]
    simp only [Option.bind_some]
    rw [lay_one _ [] (by simp; omega)]
    rfl
  · simp only [h] at hs ⊢
    rw [show (((3 : Int) == 0) = false) from rfl, show (((3 : Int) == 1) = false) from rfl, show (((3 : Int) == 2) = false) from rfl, show (((3 : Int) == 3) = true) from rfl] at *
    simp only [Bool.false_eq_true, if_false, if_true] at hs ⊢
    have hf : strconv_FormatInt v.N 10 = some (Lib.itoa v.N, ()) := by
      unfold strconv_FormatInt strconv_FormatInt_x
      rw [if_neg (by decide), if_pos ⟨h0, h1, rfl⟩]
      rfl
    rw [hf]
    simp only [Option.bind_some]
    rw [lay_one _ [] (by simp; omega)]
    rfl
theorem data_Text_eq (v : Data) (hb : bulkD v ≤ 1048576) (hm : mayD v = true) (hk : v.Kind = 1 ∨ v.Kind = 2 ∨ v.Kind = 3) (h0 : -9223372036854775808 ≤ v.N) (h1 : v.N ≤ 9223372036854775807) : data_Text v = some (scalarT v, 0, ()) := by
  have hL : v.L = [] := by
    rw [mayD_eq, Bool.and_eq_true] at hm
    have := hm.1
    unfold ownD at this
    rcases hk with h | h | h <;> rw [h] at this <;> simp at this <;> exact this.2
  have hc : checkP v = 0 := by
    unfold checkP
    rw [if_pos hm, deepD_eq, hL]
    simp [deepL]
  unfold data_Text
  rw [re25_eq, data_Check_eq v hb, hc]
  simp only [Option.bind_some]
  have : data_writer_value v [] = some (scalarT v, ()) := scalar_eq 999999999999 v hk h0 h1
  rw [this]
  rfl

/-! ### the writer -/
/-- what stands in a list or a record, written one behind the other -/
def rowsW (named : Bool) (a : Bool × Str × List Str) (x : Data) : (Bool × Str × List Str) ⊕ (Str × Unit) :=
  if (named && (x.Kind == 0)) = true then .inl (a.1, a.2.1, a.2.2.tail)
  else .inl (false, a.2.1 ++ ((if a.1 then [] else plainU [44]) ++ ((if named then quoteJ (a.2.2.headD []) ++ plainU [58] else []) ++ writeD x)), a.2.2.tail)
theorem rows_list (out : Str) : ∀ (r : List Data) (b : Bool) (acc : Str) (ks : List Str), foldE (rowsW false) (fun a => (a.2.1 ++ out, ())) (b, acc, ks) r = (acc ++ (listW b r ++ out), ())
  | [], b, acc, ks => by simp [foldE, listW]
  | x :: r, b, acc, ks => by
    rw [foldE_inl (a' := (false, acc ++ ((if b then [] else plainU [44]) ++ ([] ++ writeD x)), ks.tail)) rfl, rows_list out r]
    simp [listW]
theorem rows_rec (out : Str) : ∀ (r : List Data) (b : Bool) (acc : Str) (ks : List Str), foldE (rowsW true) (fun a => (a.2.1 ++ out, ())) (b, acc, ks) r = (acc ++ (recW b ks r ++ out), ())
  | [], b, acc, ks => by simp [foldE, recW]
  | x :: r, b, acc, ks => by
    by_cases h0 : (x.Kind == 0) = true
    · rw [foldE_inl (a' := (b, acc, ks.tail)) (by unfold rowsW; rw [h0]; rfl), rows_rec out r]
      simp only [recW, h0, if_true]
    · have h0' : (x.Kind == 0) = false := by simpa using h0
      rw [foldE_inl (a' := (false, acc ++ ((if b then [] else plainU [44]) ++ ((quoteJ (ks.headD []) ++ plainU [58]) ++ writeD x)), ks.tail)) (by unfold rowsW; rw [h0']; rfl), rows_rec out r]
      simp only [recW, h0', Bool.false_eq_true, if_false, List.append_assoc]
theorem drop_tail {α : Type} {l : List α} {i : Nat} : (l.drop i).tail = l.drop (i + 1) := by rw [List.tail_drop]
theorem writer_n : ∀ (n : Nat) (v : Data), deepD v ≤ n → bulkD v ≤ 1048576 → okD v → mayD v = true → ∀ a : Str, a.length + 12 * bulkD v ≤ 100000000 → (Rec_json_writer_value_g n).json_writer_value v a = some (a ++ writeD v, ())
  | 0, v, h, _, _, _, _, _ => by have := deepD_eq v; omega
  | n + 1, v, hd, hb, ho, hm, a, ha => by
    have hbe := bulkD_eq v
    have hde := deepD_eq v
    have hlen := len_bulkL v.L
    have ho' := ho
    rw [okD_eq] at ho'
    obtain ⟨_, ⟨n0, n1⟩, hoL⟩ := ho'
    have hmL : mayL v.L = true := by rw [mayD_eq, Bool.and_eq_true] at hm; exact hm.2
    have hown : ownD v = true := by rw [mayD_eq, Bool.and_eq_true] at hm; exact hm.1
    have ih : ∀ x ∈ v.L, ∀ b : Str, b.length + 12 * bulkD x ≤ 100000000 → (Rec_json_writer_value_g n).json_writer_value x b = some (b ++ writeD x, ()) := fun x hx b hbl =>
      writer_n n x (by have := mem_deepL hx; omega) (by have := mem_bulkL hx; omega) (okL_mem hoL hx) (mayL_mem hmL hx) b hbl
    show json_writer_value_b (Rec_json_writer_value_g n) v a = _
    unfold json_writer_value_b
    simp only [re25_eq]
    rw [writeD_eq]
    by_cases k0 : (v.Kind == 0) = true
    · simp only [k0, if_true]
      rw [plain_eq _ a (by simp; omega) (by simp)]
      rfl
    have k0' : (v.Kind == 0) = false := by simpa using k0
    simp only [k0', Bool.false_eq_true, if_false]
    by_cases k4 : (v.Kind == 4) = true
    · simp only [k4, if_true]
      rw [str_eq v.S a (by omega) (by omega)]
      rfl
    have k4' : (v.Kind == 4) = false := by simpa using k4
    simp only [k4', Bool.false_eq_true, if_false]
    have rows : ∀ (named : Bool) (op cl : UInt8), (v.Kind == 6) = named → (named = true → v.Keys.length = v.L.length) → cutL ([91, 123] : Str) (IntKind.wrap .i64 (v.Kind - 5)) (IntKind.wrap .i64 (IntKind.wrap .i64 (v.Kind - 5) + 1)) = some [op] →
        cutL ([93, 125] : Str) (IntKind.wrap .i64 (v.Kind - 5)) (IntKind.wrap .i64 (IntKind.wrap .i64 (v.Kind - 5) + 1)) = some [cl] →
        json_writer_value_j1 (Rec_json_writer_value_g n) a v = some (foldE (rowsW named) (fun a => (a.2.1 ++ plainU [cl], ())) (true, a ++ plainU [op], v.Keys) v.L) := by
      intro named op cl hnamed hks hop hcl
      unfold json_writer_value_j1 json_writer_value_j2
      simp only [hnamed, re25_eq, hop, Option.bind_some]
      rw [plain_eq _ a (by simp; omega) (by simp)]
      simp only [Option.bind_some]
      refine loop_all (step := json_writer_value_l3 (Rec_json_writer_value_g n)) (fun (q : Bool × Str × List Str) i => (named, q.1, v.L, ((v.L.length : Nat) : Int), (i : Int), q.2.1, v, ())) v.L (rowsW named) (fun a => (a.2.1 ++ plainU [cl], ()))
        (fun q r => q.2.2 = v.Keys.drop (v.L.length - r.length) ∧ q.2.1.length + 12 * bulkL r + 12 * (q.2.2.map fun k => k.length + 1).sum + 40 ≤ 100000000) (true, a ++ plainU [op], v.Keys) (by omega)
        ⟨by simp, by simp only [List.length_append, plainU_length, List.length_cons, List.length_nil]; omega⟩ ?_ ?_
      · intro i x r q hr hq
        obtain ⟨b, acc, ks⟩ := q
        obtain ⟨q1, q2⟩ := hq
        simp only at q1 q2
        obtain ⟨h1, h2, h3⟩ := getI_drop hr
        have hi : ((i : Int) < ((v.L.length : Nat) : Int)) := by omega
        have hri : v.L.length - (x :: r).length = i := by
          have := congrArg List.length hr; simp at this; simp only [List.length_cons]; omega
        have hri2 : v.L.length - r.length = i + 1 := by
          have := congrArg List.length hr; simp at this; omega
        rw [hri] at q1
        simp only [bulkL, List.length_cons] at q2
        have hwl := writeD_length x (okL_mem hoL h3)
        have htail : ks.tail = v.Keys.drop (v.L.length - r.length) := by rw [q1, hri2, drop_tail]
        have hk : ((ks.tail).map fun k : Str => k.length + 1).sum + (ks.headD []).length ≤ (ks.map fun k => k.length + 1).sum := by
          cases ks with
          | nil => simp
          | cons k ks => simp only [List.tail_cons, List.headD_cons, List.map_cons, List.sum_cons]; omega
        have hq := quoteJ_length (ks.headD [])
        unfold rowsW
        cases hn : (named && (x.Kind == 0)) with
        | true =>
          simp only [if_true]
          refine ⟨?_, htail, by omega⟩
          simp only [json_writer_value_l3, hi, decide_true, if_true, h1, Option.bind_some, hn, re25_eq]
          rw [wrap1 (by omega)]
        | false =>
          simp only [Bool.false_eq_true, if_false]
          refine ⟨?_, htail, by
            have c1 : ((if b then [] else plainU [44] : Str)).length ≤ 2 := by cases b <;> decide
            have c2 : ((if named then quoteJ (ks.headD []) ++ plainU [58] else [] : Str)).length ≤ 6 * (ks.headD []).length + 6 := by
              cases named with
              | true => simp only [if_true, List.length_append, plainU_length, List.length_cons, List.length_nil]; omega
              | false => simp only [Bool.false_eq_true, if_false, List.length_nil]; omega
            simp only [List.length_append]
            omega⟩
          have comma : (if (!b) = true then Option.bind (json_writer_plain ([44] : Str) acc) fun r_26 => json_writer_value_j4 (Rec_json_writer_value_g n) named (i : Int) v.L ((v.L.length : Nat) : Int) (i : Int) r_26.1 v x
              else json_writer_value_j4 (Rec_json_writer_value_g n) named (i : Int) v.L ((v.L.length : Nat) : Int) (i : Int) acc v x) = json_writer_value_j4 (Rec_json_writer_value_g n) named (i : Int) v.L ((v.L.length : Nat) : Int) (i : Int) (acc ++ (if b then [] else plainU [44])) v x := by
            cases b with
            | true => simp
            | false =>
              simp only [Bool.not_false, if_true, Bool.false_eq_true, if_false]
              rw [plain_eq _ acc (by simp; omega) (by simp)]
              rfl
          simp only [json_writer_value_l3, hi, decide_true, if_true, h1, Option.bind_some, hn, Bool.false_eq_true, if_false, re25_eq]
          refine comma.trans ?_
          unfold json_writer_value_j4 json_writer_value_j5
          simp only [re25_eq]
          have c1 : ((if b then [] else plainU [44] : Str)).length ≤ 2 := by cases b <;> decide
          cases named with
          | true =>
            simp only [if_true]
            have hlt : i < v.Keys.length := by have := hks rfl; omega
            have hkey : getI v.Keys (i : Int) = some (ks.headD []) := by
              rw [getI_nat, q1, List.drop_eq_getElem_cons hlt, List.headD_cons]
              exact List.getElem?_eq_getElem hlt
            have hmem : ks.headD [] ∈ v.Keys := by rw [getI_nat] at hkey; exact List.mem_of_getElem? hkey
            have hkl := mem_sum1 hmem
            rw [hkey]
            simp only [Option.bind_some]
            rw [str_eq _ _ (by omega) (by simp only [List.length_append]; omega)]
            simp only [Option.bind_some]
            rw [plain_eq _ _ (by simp only [List.length_append, List.length_cons, List.length_nil]; omega) (by simp)]
            simp only [Option.bind_some]
            rw [ih x h3 _ (by simp only [List.length_append, plainU_length, List.length_cons, List.length_nil]; omega)]
            simp only [Option.bind_some]
            rw [wrap1 (by omega)]
            simp
          | false =>
            simp only [Bool.false_eq_true, if_false]
            rw [ih x h3 _ (by simp only [List.length_append]; omega)]
            simp only [Option.bind_some]
            rw [wrap1 (by omega)]
            simp
      · intro q hq
        have hi : ¬ (((v.L.length : Nat) : Int) < ((v.L.length : Nat) : Int)) := by omega
        simp only [json_writer_value_l3, hi, decide_false, Bool.false_eq_true, if_false, hcl, Option.bind_some]
        rw [plain_eq _ _ (by simp only [List.length_cons, List.length_nil]; omega) (by simp)]
        rfl
    by_cases k5 : (v.Kind == 5) = true
    · simp only [k5, if_true]
      have e5 : v.Kind = 5 := eq_of_beq k5
      rw [rows false 91 93 (by rw [e5]; rfl) (by intro h; cases h) (by rw [e5]; rfl) (by rw [e5]; rfl), rows_list]
      simp
    have k5' : (v.Kind == 5) = false := by simpa using k5
    simp only [k5', Bool.false_eq_true, if_false]
    by_cases k6 : (v.Kind == 6) = true
    · simp only [k6, if_true]
      have e6 : v.Kind = 6 := eq_of_beq k6
      have hks : v.Keys.length = v.L.length := by
        unfold ownD at hown
        rw [e6] at hown
        simp [keysP] at hown
        exact hown.2.2
      rw [rows true 123 125 k6 (fun _ => hks) (by rw [e6]; rfl) (by rw [e6]; rfl), rows_rec]
      simp
    have k6' : (v.Kind == 6) = false := by simpa using k6
    simp only [k6', Bool.false_eq_true, if_false]
    have hk : v.Kind = 1 ∨ v.Kind = 2 ∨ v.Kind = 3 := by
      unfold ownD at hown
      simp only [k0', k4', k5', k6', Bool.false_eq_true, if_false] at hown
      by_cases j1 : (v.Kind == 1) = true
      · exact .inl (eq_of_beq j1)
      · by_cases j2 : (v.Kind == 2) = true
        · exact .inr (.inl (eq_of_beq j2))
        · by_cases j3 : (v.Kind == 3) = true
          · exact .inr (.inr (eq_of_beq j3))
          · simp [j1, j2, j3] at hown
    have hsl := scalar_length v n0 n1
    rw [data_Text_eq v hb hm hk n0 n1]
    simp only [Option.bind_some]
    rw [plain_eq _ a (by omega) (by omega)]
    rfl
/-- Write's answer -/
def WriteP (v : Data) : Str × Int := if checkP v ≠ 0 then ([], checkP v) else if (v.Kind == 0) = true then ([], 4) else if 8192 < (writeD v).length then ([], 100) else (writeD v, 0)
theorem check_may {v : Data} (h : checkP v = 0) : mayD v = true ∧ deepD v ≤ 20 := by
  unfold checkP at h
  split at h
  · rename_i hm
    split at h
    · cases h
    · exact ⟨hm, by omega⟩
  · cases h
theorem json_Write_eq (v : Data) (hb : bulkD v ≤ 1048576) (ho : okD v) : json_Write v = some ((WriteP v).1, (WriteP v).2, ()) := by
  have hd := deep_bulk v
  unfold json_Write WriteP
  rw [re25_eq, data_Check_eq v hb]
  simp only [Option.bind_some]
  by_cases hc : checkP v = 0
  · have h0 : (checkP v != 0) = false := by simpa using hc
    simp only [h0, Bool.false_eq_true, if_false, hc, ne_eq, not_true_eq_false]
    by_cases k0 : (v.Kind == 0) = true
    · simp [k0]
    · have k0' : (v.Kind == 0) = false := by simpa using k0
      simp only [k0', Bool.false_eq_true, if_false]
      have hw : json_writer_value v [] = some (writeD v, ()) := by
        have := writer_n 1000000000000 v (by omega) hb ho (check_may hc).1 [] (by simp; omega)
        exact this
      rw [hw]
      simp only [Option.bind_some, strings_Builder_Len]
      by_cases hl : 8192 < (writeD v).length
      · have : (((writeD v).length : Nat) : Int) > 8192 := by omega
        simp [this, hl]
      · have : ¬ ((((writeD v).length : Nat) : Int) > 8192) := by omega
        simp [this, hl]
  · have h0 : (checkP v != 0) = true := by simpa using hc
    simp only [h0, if_true, hc, ne_eq, not_false_eq_true]
end Go.D13

