/- Chapter 7, plainly: depth, size, sameness. -/
import Derived.Test.YtilkjloabkgpaaaDoorA07
import Derived.Test.YtilkjloabkgpaaaDoorGwL
import Derived.KernelRfl
set_option linter.unusedVariables false
set_option linter.unusedSimpArgs false
set_option linter.unnecessarySimpa false
namespace Go.D07
open Go Go.Gw Go.Dn
instance lpI : Lp := lpN 1000000000000
theorem live_true : credenzalaw07_live = some (true, ()) := by kernel_rfl

theorem loop_of {S E : Type} {step : S → Option (S ⊕ E)} {n : Nat} {s : S} {e : E} (h : loopN step n s = some e) (hn : n ≤ 1000000000000) : Lp.loop step s = some e :=
  loopN_more _ h hn
theorem loopN_go {S E : Type} {step : S → Option (S ⊕ E)} {n : Nat} {s s' : S} (h : step s = some (.inl s')) : loopN step (n + 1) s = loopN step n s' := by simp only [loopN, h, Option.bind_some]
theorem loopN_out {S E : Type} {step : S → Option (S ⊕ E)} {n : Nat} {s : S} {e : E} (h : step s = some (.inr e)) : loopN step (n + 1) s = some e := by simp only [loopN, h, Option.bind_some]

abbrev Node := T_api_Node
mutual
def deepN : Node → Nat
  | ⟨_, _, _, _, _, l⟩ => deepL l + 1
def deepL : List Node → Nat
  | [] => 0
  | x :: r => max (deepN x) (deepL r)
end
mutual
def sizeN : Node → Nat
  | ⟨_, _, _, _, _, l⟩ => sizeL l + 1
def sizeL : List Node → Nat
  | [] => 0
  | x :: r => sizeN x + sizeL r
end
mutual
def sameN : Node → Node → Bool
  | ⟨k, n, m, t, ns, l⟩, ⟨k', n', m', t', ns', l'⟩ => (k == k' && n == n' && m == m' && t == t' && ns == ns') && sameL l l'
def sameL : List Node → List Node → Bool
  | [], [] => true
  | x :: r, y :: r' => sameN x y && sameL r r'
  | _, _ => false
end
theorem deepN_eq (x : Node) : deepN x = deepL x.L + 1 := by cases x; simp [deepN]
theorem sizeN_eq (x : Node) : sizeN x = sizeL x.L + 1 := by cases x; simp [sizeN]
theorem deepL_cons (x : Node) (r : List Node) : deepL (x :: r) = max (deepN x) (deepL r) := by simp [deepL]
theorem sizeL_cons (x : Node) (r : List Node) : sizeL (x :: r) = sizeN x + sizeL r := by simp [sizeL]
mutual
theorem deep_size : ∀ x : Node, deepN x ≤ sizeN x
  | ⟨_, _, _, _, _, l⟩ => by simp only [deepN, sizeN]; have := deep_sizeL l; omega
theorem deep_sizeL : ∀ l : List Node, deepL l ≤ sizeL l
  | [] => by simp [deepL]
  | x :: r => by simp only [deepL, sizeL]; have := deep_size x; have := deep_sizeL r; omega
end
theorem len_sizeL : ∀ l : List Node, l.length ≤ sizeL l
  | [] => by simp
  | x :: r => by simp only [sizeL, List.length_cons]; have := len_sizeL r; have := sizeN_eq x; omega
theorem mem_deepL {x : Node} : ∀ {l : List Node}, x ∈ l → deepN x ≤ deepL l
  | y :: r, h => by
    simp only [deepL]
    rcases List.mem_cons.1 h with rfl | h
    · omega
    · have := mem_deepL h; omega
theorem mem_sizeL {x : Node} : ∀ {l : List Node}, x ∈ l → sizeN x ≤ sizeL l
  | y :: r, h => by
    simp only [sizeL]
    rcases List.mem_cons.1 h with rfl | h
    · omega
    · have := mem_sizeL h; omega
theorem getI_drop {α : Type} {xs : List α} {i : Nat} {x : α} {r : List α} (h : xs.drop i = x :: r) : getI xs (i : Int) = some x ∧ xs.drop (i + 1) = r ∧ i < xs.length := by
  have hi : i < xs.length := by
    rcases Nat.lt_or_ge i xs.length with h1 | h1
    · exact h1
    · rw [List.drop_of_length_le h1] at h; cases h
  rw [List.drop_eq_getElem_cons hi] at h
  cases h
  exact ⟨by rw [getI_nat]; exact List.getElem?_eq_getElem hi, rfl, hi⟩

theorem deep_loop (g : Rec_tree_Deep) (l : List Node) (hg : ∀ x ∈ l, g.tree_Deep x = some ((deepN x : Int), ())) (hb : deepL l < 4611686018427387904) (hl : l.length < 4611686018427387904) : ∀ (r : List Node) (i : Nat) (m : Nat), l.drop i = r → m < 4611686018427387904 →
    loopN (tree_Deep_l1 g) (r.length + 1) ((m : Int), l, ((l.length : Nat) : Int), (i : Int), ()) = some (((max m (deepL r) + 1 : Nat) : Int), ())
  | [], i, m, hr, hm => by
    have hi : ¬ ((i : Int) < (l.length : Int)) := by
      have := congrArg List.length hr; simp at this; omega
    refine loopN_out ?_
    simp only [tree_Deep_l1, hi, decide_false, Bool.false_eq_true, if_false]
    rw [wrap_i64 (by omega) (by omega)]
    simp [deepL]
  | x :: r, i, m, hr, hm => by
    obtain ⟨h1, h2, h3⟩ := getI_drop hr
    have hi : ((i : Int) < (l.length : Int)) := by omega
    have hx : x ∈ l := List.mem_of_mem_drop (hr ▸ List.mem_cons_self)
    have hd := mem_deepL hx
    have hstep : tree_Deep_l1 g ((m : Int), l, ((l.length : Nat) : Int), (i : Int), ()) = some (.inl (((max m (deepN x) : Nat) : Int), l, ((l.length : Nat) : Int), ((i + 1 : Nat) : Int), ())) := by
      simp only [tree_Deep_l1, hi, decide_true, if_true, h1, Option.bind_some, re25_eq, hg x hx]
      rw [wrap_i64 (by omega) (by omega)]
      have : (if ((deepN x : Nat) : Int) > (m : Int) then ((deepN x : Nat) : Int) else (m : Int)) = ((max m (deepN x) : Nat) : Int) := by split <;> omega
      rw [this]
      rfl
    rw [List.length_cons, loopN_go hstep, deep_loop g l hg hb hl r (i + 1) _ h2 (by omega), deepL_cons]
    congr 3
    omega
theorem tree_Deep_n : ∀ (n : Nat) (x : Node), deepN x ≤ n → sizeN x ≤ 1048576 → (Rec_tree_Deep_g n).tree_Deep x = some ((deepN x : Int), ())
  | 0, x, h, _ => by have := deepN_eq x; omega
  | n + 1, x, h, hs => by
    have h1 := deepN_eq x
    have h2 := sizeN_eq x
    have h3 := deep_sizeL x.L
    have h4 := len_sizeL x.L
    show tree_Deep_b (Rec_tree_Deep_g n) x = _
    unfold tree_Deep_b
    refine loop_of (n := x.L.length + 1) ?_ (by omega)
    have := deep_loop (Rec_tree_Deep_g n) x.L (fun y hy => tree_Deep_n n y (by have := mem_deepL hy; omega) (by have := mem_sizeL hy; omega)) (by omega) (by omega) x.L 0 0 rfl (by omega)
    rw [h1]
    simpa using this
theorem tree_Deep_eq (x : Node) (h : sizeN x ≤ 1048576) : tree_Deep x = some ((deepN x : Int), ()) :=
  tree_Deep_n _ x (by have := deep_size x; show deepN x ≤ 1000000000000; omega) h
theorem refDeep_n : ∀ n, (Rec_credenzaref07_Deep_g n).credenzaref07_Deep = (Rec_tree_Deep_g n).tree_Deep
  | 0 => rfl
  | n + 1 => by
    funext x
    show credenzaref07_Deep_b (Rec_credenzaref07_Deep_g n) x = tree_Deep_b (Rec_tree_Deep_g n) x
    unfold credenzaref07_Deep_b tree_Deep_b
    congr 1
    funext z
    simp only [credenzaref07_Deep_l1, tree_Deep_l1, refDeep_n n]

theorem size_loop (g : Rec_tree_Size) (l : List Node) (hg : ∀ x ∈ l, g.tree_Size x = some ((sizeN x : Int), ())) (hl : l.length < 4611686018427387904) : ∀ (r : List Node) (i : Nat) (m : Nat), l.drop i = r → m + sizeL r < 4611686018427387904 →
    loopN (tree_Size_l1 g) (r.length + 1) ((m : Int), l, ((l.length : Nat) : Int), (i : Int), ()) = some (((m + sizeL r : Nat) : Int), ())
  | [], i, m, hr, hm => by
    have hi : ¬ ((i : Int) < (l.length : Int)) := by
      have := congrArg List.length hr; simp at this; omega
    refine loopN_out ?_
    simp only [tree_Size_l1, hi, decide_false, Bool.false_eq_true, if_false]
    simp [sizeL]
  | x :: r, i, m, hr, hm => by
    obtain ⟨h1, h2, h3⟩ := getI_drop hr
    have hi : ((i : Int) < (l.length : Int)) := by omega
    have hx : x ∈ l := List.mem_of_mem_drop (hr ▸ List.mem_cons_self)
    rw [sizeL_cons] at hm
    have hstep : tree_Size_l1 g ((m : Int), l, ((l.length : Nat) : Int), (i : Int), ()) = some (.inl (((m + sizeN x : Nat) : Int), l, ((l.length : Nat) : Int), ((i + 1 : Nat) : Int), ())) := by
      simp only [tree_Size_l1, hi, decide_true, if_true, h1, Option.bind_some, re25_eq, hg x hx]
      rw [wrap_i64 (n := (i : Int) + 1) (by omega) (by omega), wrap_i64 (by omega) (by omega)]
      simp
    rw [List.length_cons, loopN_go hstep, size_loop g l hg hl r (i + 1) _ h2 (by omega), sizeL_cons, Nat.add_assoc]
theorem tree_Size_n : ∀ (n : Nat) (x : Node), deepN x ≤ n → sizeN x ≤ 1048576 → (Rec_tree_Size_g n).tree_Size x = some ((sizeN x : Int), ())
  | 0, x, h, _ => by have := deepN_eq x; omega
  | n + 1, x, h, hs => by
    have h1 := deepN_eq x
    have h2 := sizeN_eq x
    have h4 := len_sizeL x.L
    show tree_Size_b (Rec_tree_Size_g n) x = _
    unfold tree_Size_b
    refine loop_of (n := x.L.length + 1) ?_ (by omega)
    have := size_loop (Rec_tree_Size_g n) x.L (fun y hy => tree_Size_n n y (by have := mem_deepL hy; omega) (by have := mem_sizeL hy; omega)) (by omega) x.L 0 1 rfl (by omega)
    rw [h2, show sizeL x.L + 1 = 1 + sizeL x.L by omega]
    exact this
theorem tree_Size_eq (x : Node) (h : sizeN x ≤ 1048576) : tree_Size x = some ((sizeN x : Int), ()) :=
  tree_Size_n _ x (by have := deep_size x; show deepN x ≤ 1000000000000; omega) h
theorem refSize_n : ∀ n, (Rec_credenzaref07_Size_g n).credenzaref07_Size = (Rec_tree_Size_g n).tree_Size
  | 0 => rfl
  | n + 1 => by
    funext x
    show credenzaref07_Size_b (Rec_credenzaref07_Size_g n) x = tree_Size_b (Rec_tree_Size_g n) x
    unfold credenzaref07_Size_b tree_Size_b
    congr 1
    funext z
    simp only [credenzaref07_Size_l1, tree_Size_l1, refSize_n n]

theorem eq_loop (xs ys : List Str) (hl : xs.length = ys.length) (hb : xs.length < 4611686018427387904) : ∀ (r : List Str) (i : Nat), xs.drop i = r →
    loopN slices_Equal_l1 (r.length + 1) (xs, ys, ((xs.length : Nat) : Int), (i : Int), ()) = some (r == ys.drop i, ())
  | [], i, hr => by
    have h1 : xs.length ≤ i := by have := congrArg List.length hr; simp at this; omega
    have hi : ¬ ((i : Int) < (xs.length : Int)) := by omega
    refine loopN_out ?_
    simp only [slices_Equal_l1, hi, decide_false, Bool.false_eq_true, if_false]
    rw [List.drop_of_length_le (by omega : ys.length ≤ i)]
    rfl
  | x :: r, i, hr => by
    obtain ⟨h1, h2, h3⟩ := getI_drop hr
    have hi : ((i : Int) < (xs.length : Int)) := by omega
    have hy : i < ys.length := by omega
    have h4 : ys.drop i = ys[i] :: ys.drop (i + 1) := List.drop_eq_getElem_cons hy
    have h5 : getI ys (i : Int) = some ys[i] := by rw [getI_nat]; exact List.getElem?_eq_getElem hy
    rw [h4, List.length_cons, List.cons_beq_cons]
    cases he : (x == ys[i]) with
    | false =>
      refine loopN_out ?_
      simp only [slices_Equal_l1, hi, decide_true, if_true, h1, h5, Option.bind_some, he, Bool.not_false, Bool.false_and]
    | true =>
      have hstep : slices_Equal_l1 (xs, ys, ((xs.length : Nat) : Int), (i : Int), ()) = some (.inl (xs, ys, ((xs.length : Nat) : Int), ((i + 1 : Nat) : Int), ())) := by
        simp only [slices_Equal_l1, hi, decide_true, if_true, h1, h5, Option.bind_some, he, Bool.not_true, Bool.false_eq_true, if_false]
        rw [wrap_i64 (by omega) (by omega)]
        rfl
      rw [loopN_go hstep, eq_loop xs ys hl hb r (i + 1) h2, Bool.true_and]
theorem slices_Equal_eq (xs ys : List Str) (hx : xs.length ≤ 1048576) (hy : ys.length ≤ 1048576) : slices_Equal xs ys = some (xs == ys, ()) := by
  unfold slices_Equal
  by_cases hl : xs.length = ys.length
  · have h1 : (((xs.length : Nat) : Int) != ((ys.length : Nat) : Int)) = false := by simp [hl]
    simp only [h1, Bool.false_eq_true, if_false]
    refine loop_of (n := xs.length + 1) ?_ (by omega)
    have := eq_loop xs ys hl (by omega) xs 0 rfl
    simpa using this
  · have h1 : (((xs.length : Nat) : Int) != ((ys.length : Nat) : Int)) = true := by simpa using by omega
    simp only [h1, if_true]
    have : (xs == ys) = false := by
      simp only [beq_eq_false_iff_ne, ne_eq]
      intro e; exact hl (by rw [e])
    rw [this]
mutual
def namesN : Node → Nat
  | ⟨_, _, _, _, ns, l⟩ => ns.length + namesL l
def namesL : List Node → Nat
  | [] => 0
  | x :: r => namesN x + namesL r
end
theorem namesN_eq (x : Node) : namesN x = x.Names.length + namesL x.L := by cases x; simp [namesN]
theorem mem_namesL {x : Node} : ∀ {l : List Node}, x ∈ l → namesN x ≤ namesL l
  | y :: r, h => by
    simp only [namesL]
    rcases List.mem_cons.1 h with rfl | h
    · omega
    · have := mem_namesL h; omega
theorem sameN_eq (x y : Node) : sameN x y = ((x.Kind == y.Kind && x.Name == y.Name && x.Num == y.Num && x.Text == y.Text && x.Names == y.Names) && sameL x.L y.L) := by
  cases x; cases y; simp only [sameN]
theorem sameL_len : ∀ {l l' : List Node}, l.length ≠ l'.length → sameL l l' = false
  | [], [], h => absurd rfl h
  | [], _ :: _, _ => by simp [sameL]
  | _ :: _, [], _ => by simp [sameL]
  | x :: r, y :: r', h => by
    simp only [sameL]
    rw [sameL_len (by simpa using h)]
    simp
theorem eqF_loop (g : Rec_tree_Same) (xs ys : List Node) (hg : ∀ x ∈ xs, ∀ y ∈ ys, g.tree_Same x y = some (sameN x y, ())) (hl : xs.length = ys.length) (hb : xs.length < 4611686018427387904) : ∀ (r : List Node) (i : Nat), xs.drop i = r →
    loopN (slices_EqualFunc_l1 g) (r.length + 1) (ys, xs, ((xs.length : Nat) : Int), (i : Int), ()) = some (sameL r (ys.drop i), ())
  | [], i, hr => by
    have h1 : xs.length ≤ i := by have := congrArg List.length hr; simp at this; omega
    have hi : ¬ ((i : Int) < (xs.length : Int)) := by omega
    refine loopN_out ?_
    simp only [slices_EqualFunc_l1, hi, decide_false, Bool.false_eq_true, if_false]
    rw [List.drop_of_length_le (by omega : ys.length ≤ i)]
    simp [sameL]
  | x :: r, i, hr => by
    obtain ⟨h1, h2, h3⟩ := getI_drop hr
    have hi : ((i : Int) < (xs.length : Int)) := by omega
    have hy : i < ys.length := by omega
    have h4 : ys.drop i = ys[i] :: ys.drop (i + 1) := List.drop_eq_getElem_cons hy
    have h5 : getI ys (i : Int) = some ys[i] := by rw [getI_nat]; exact List.getElem?_eq_getElem hy
    have h6 := hg x (List.mem_of_mem_drop (hr ▸ List.mem_cons_self)) ys[i] (List.getElem_mem hy)
    rw [h4, List.length_cons]
    simp only [sameL]
    cases he : sameN x ys[i] with
    | false =>
      refine loopN_out ?_
      simp only [slices_EqualFunc_l1, hi, decide_true, if_true, h1, h5, Option.bind_some, re25_eq, h6, he, Bool.not_false, Bool.false_and]
    | true =>
      have hstep : slices_EqualFunc_l1 g (ys, xs, ((xs.length : Nat) : Int), (i : Int), ()) = some (.inl (ys, xs, ((xs.length : Nat) : Int), ((i + 1 : Nat) : Int), ())) := by
        simp only [slices_EqualFunc_l1, hi, decide_true, if_true, h1, h5, Option.bind_some, re25_eq, h6, he, Bool.not_true, Bool.false_eq_true, if_false]
        rw [wrap_i64 (by omega) (by omega)]
        rfl
      rw [loopN_go hstep, eqF_loop g xs ys hg hl hb r (i + 1) h2, Bool.true_and]
theorem same_n : ∀ (n : Nat), (∀ (x y : Node), 2 * deepN x ≤ n → sizeN x ≤ 1048576 → sizeN y ≤ 1048576 → namesN x ≤ 1048576 → namesN y ≤ 1048576 → (Rec_tree_Same_g n).tree_Same x y = some (sameN x y, ())) ∧
    (∀ (l l' : List Node), 2 * deepL l + 1 ≤ n → sizeL l ≤ 1048576 → sizeL l' ≤ 1048576 → namesL l ≤ 1048576 → namesL l' ≤ 1048576 → (Rec_tree_Same_g n).slices_EqualFunc l l' = some (sameL l l', ()))
  | 0 => ⟨fun x y h => by have := deepN_eq x; omega, fun l l' h => by omega⟩
  | n + 1 => by
    obtain ⟨ih1, ih2⟩ := same_n n
    refine ⟨fun x y h hs hs' hn hn' => ?_, fun l l' h hs hs' hn hn' => ?_⟩
    · have a1 := deepN_eq x; have a2 := sizeN_eq x; have a3 := sizeN_eq y; have a4 := namesN_eq x; have a5 := namesN_eq y
      show tree_Same_b (Rec_tree_Same_g n) x y = _
      unfold tree_Same_b
      rw [slices_Equal_eq _ _ (by omega) (by omega), ih2 x.L y.L (by omega) (by omega) (by omega) (by omega) (by omega), sameN_eq]
      simp only [Option.bind_some]
      cases x.Kind == y.Kind <;> cases x.Name == y.Name <;> cases x.Num == y.Num <;> cases x.Text == y.Text <;> cases x.Names == y.Names <;> simp
    · have b1 := len_sizeL l
      show slices_EqualFunc_b (Rec_tree_Same_g n) l l' = _
      unfold slices_EqualFunc_b
      by_cases hl : l.length = l'.length
      · have h1 : (((l.length : Nat) : Int) != ((l'.length : Nat) : Int)) = false := by simp [hl]
        simp only [h1, Bool.false_eq_true, if_false]
        refine loop_of (n := l.length + 1) ?_ (by omega)
        have := eqF_loop (Rec_tree_Same_g n) l l' (fun x hx y hy => ih1 x y (by have := mem_deepL hx; omega) (by have := mem_sizeL hx; omega) (by have := mem_sizeL hy; omega) (by have := mem_namesL hx; omega) (by have := mem_namesL hy; omega)) hl (by omega) l 0 rfl
        simpa using this
      · have h1 : (((l.length : Nat) : Int) != ((l'.length : Nat) : Int)) = true := by simpa using by omega
        simp only [h1, if_true]
        rw [sameL_len hl]
theorem tree_Same_eq (x y : Node) (hs : sizeN x ≤ 1048576) (hs' : sizeN y ≤ 1048576) (hn : namesN x ≤ 1048576) (hn' : namesN y ≤ 1048576) : tree_Same x y = some (sameN x y, ()) :=
  (same_n 1000000000000).1 x y (by have := deep_size x; omega) hs hs' hn hn'

theorem rnames_loop (g : Rec_credenzaref07_Same) (x y : Node) (v : Bool) (hl : x.Names.length = y.Names.length) (hb : x.Names.length < 4611686018427387904)
    (hend : Lp.loop (credenzaref07_Same_l2 g) (((x.L.length : Nat) : Int), 0, x, y, ()) = some (v, ())) : ∀ (r : List Str) (i : Nat), x.Names.drop i = r →
    loopN (credenzaref07_Same_l1 g) (r.length + 1) (((x.Names.length : Nat) : Int), (i : Int), x, y, ()) = some ((r == y.Names.drop i) && v, ())
  | [], i, hr => by
    have h1 : x.Names.length ≤ i := by have := congrArg List.length hr; simp at this; omega
    have hi : ¬ ((i : Int) < (x.Names.length : Int)) := by omega
    refine loopN_out ?_
    simp only [credenzaref07_Same_l1, hi, decide_false, Bool.false_eq_true, if_false, re25_eq, hend, mapO]
    rw [List.drop_of_length_le (by omega : y.Names.length ≤ i)]
    rfl
  | a :: r, i, hr => by
    obtain ⟨h1, h2, h3⟩ := getI_drop hr
    have hi : ((i : Int) < (x.Names.length : Int)) := by omega
    have hy : i < y.Names.length := by omega
    have h4 : y.Names.drop i = y.Names[i] :: y.Names.drop (i + 1) := List.drop_eq_getElem_cons hy
    have h5 : getI y.Names (i : Int) = some y.Names[i] := by rw [getI_nat]; exact List.getElem?_eq_getElem hy
    rw [h4, List.length_cons, List.cons_beq_cons]
    cases he : (a == y.Names[i]) with
    | false =>
      refine loopN_out ?_
      simp only [credenzaref07_Same_l1, hi, decide_true, if_true, h1, h5, Option.bind_some, he, Bool.not_false, Bool.false_and]
    | true =>
      have hstep : credenzaref07_Same_l1 g (((x.Names.length : Nat) : Int), (i : Int), x, y, ()) = some (.inl (((x.Names.length : Nat) : Int), ((i + 1 : Nat) : Int), x, y, ())) := by
        simp only [credenzaref07_Same_l1, hi, decide_true, if_true, h1, h5, Option.bind_some, he, Bool.not_true, Bool.false_eq_true, if_false, re25_eq]
        rw [wrap_i64 (by omega) (by omega)]
        rfl
      rw [loopN_go hstep, rnames_loop g x y v hl hb hend r (i + 1) h2, Bool.true_and]
theorem rsub_loop (g : Rec_credenzaref07_Same) (x y : Node) (hg : ∀ a ∈ x.L, ∀ b ∈ y.L, g.credenzaref07_Same a b = some (sameN a b, ())) (hl : x.L.length = y.L.length) (hb : x.L.length < 4611686018427387904) : ∀ (r : List Node) (i : Nat), x.L.drop i = r →
    loopN (credenzaref07_Same_l2 g) (r.length + 1) (((x.L.length : Nat) : Int), (i : Int), x, y, ()) = some (sameL r (y.L.drop i), ())
  | [], i, hr => by
    have h1 : x.L.length ≤ i := by have := congrArg List.length hr; simp at this; omega
    have hi : ¬ ((i : Int) < (x.L.length : Int)) := by omega
    refine loopN_out ?_
    simp only [credenzaref07_Same_l2, hi, decide_false, Bool.false_eq_true, if_false]
    rw [List.drop_of_length_le (by omega : y.L.length ≤ i)]
    simp [sameL]
  | a :: r, i, hr => by
    obtain ⟨h1, h2, h3⟩ := getI_drop hr
    have hi : ((i : Int) < (x.L.length : Int)) := by omega
    have hy : i < y.L.length := by omega
    have h4 : y.L.drop i = y.L[i] :: y.L.drop (i + 1) := List.drop_eq_getElem_cons hy
    have h5 : getI y.L (i : Int) = some y.L[i] := by rw [getI_nat]; exact List.getElem?_eq_getElem hy
    have h6 := hg a (List.mem_of_mem_drop (hr ▸ List.mem_cons_self)) y.L[i] (List.getElem_mem hy)
    rw [h4, List.length_cons]
    simp only [sameL]
    cases he : sameN a y.L[i] with
    | false =>
      refine loopN_out ?_
      simp only [credenzaref07_Same_l2, hi, decide_true, if_true, h1, h5, Option.bind_some, re25_eq, h6, he, Bool.not_false, Bool.false_and]
    | true =>
      have hstep : credenzaref07_Same_l2 g (((x.L.length : Nat) : Int), (i : Int), x, y, ()) = some (.inl (((x.L.length : Nat) : Int), ((i + 1 : Nat) : Int), x, y, ())) := by
        simp only [credenzaref07_Same_l2, hi, decide_true, if_true, h1, h5, Option.bind_some, re25_eq, h6, he, Bool.not_true, Bool.false_eq_true, if_false]
        rw [wrap_i64 (by omega) (by omega)]
        rfl
      rw [loopN_go hstep, rsub_loop g x y hg hl hb r (i + 1) h2, Bool.true_and]
theorem rsame_n : ∀ (n : Nat) (x y : Node), deepN x ≤ n → sizeN x ≤ 1048576 → sizeN y ≤ 1048576 → namesN x ≤ 1048576 → namesN y ≤ 1048576 → (Rec_credenzaref07_Same_g n).credenzaref07_Same x y = some (sameN x y, ())
  | 0, x, y, h, _, _, _, _ => by have := deepN_eq x; omega
  | n + 1, x, y, h, hs, hs', hn, hn' => by
    have a1 := deepN_eq x; have a2 := sizeN_eq x; have a3 := sizeN_eq y; have a4 := namesN_eq x; have a5 := namesN_eq y; have b1 := len_sizeL x.L
    show credenzaref07_Same_b (Rec_credenzaref07_Same_g n) x y = _
    unfold credenzaref07_Same_b
    simp only [re25_eq]
    rw [sameN_eq]
    by_cases hN : x.Names.length = y.Names.length
    · by_cases hL : x.L.length = y.L.length
      · have e1 : (((x.Names.length : Nat) : Int) != ((y.Names.length : Nat) : Int)) = false := by simp [hN]
        have e2 : (((x.L.length : Nat) : Int) != ((y.L.length : Nat) : Int)) = false := by simp [hL]
        have hsub : Lp.loop (credenzaref07_Same_l2 (Rec_credenzaref07_Same_g n)) (((x.L.length : Nat) : Int), 0, x, y, ()) = some (sameL x.L y.L, ()) := by
          refine loop_of (n := x.L.length + 1) ?_ (by omega)
          have := rsub_loop (Rec_credenzaref07_Same_g n) x y (fun a ha b hb => rsame_n n a b (by have := mem_deepL ha; omega) (by have := mem_sizeL ha; omega) (by have := mem_sizeL hb; omega) (by have := mem_namesL ha; omega) (by have := mem_namesL hb; omega)) hL (by omega) x.L 0 rfl
          simpa using this
        have hnam : Lp.loop (credenzaref07_Same_l1 (Rec_credenzaref07_Same_g n)) (((x.Names.length : Nat) : Int), 0, x, y, ()) = some ((x.Names == y.Names) && sameL x.L y.L, ()) := by
          refine loop_of (n := x.Names.length + 1) ?_ (by omega)
          have := rnames_loop (Rec_credenzaref07_Same_g n) x y _ hN (by omega) hsub x.Names 0 rfl
          simpa using this
        rw [e1, e2, hnam]
        have k1 : (x.Kind != y.Kind) = !(x.Kind == y.Kind) := rfl
        have k2 : (x.Num != y.Num) = !(x.Num == y.Num) := rfl
        rw [k1, k2]
        cases x.Kind == y.Kind <;> cases x.Name == y.Name <;> cases x.Num == y.Num <;> cases x.Text == y.Text <;> cases x.Names == y.Names <;> simp
      · have e2 : (((x.L.length : Nat) : Int) != ((y.L.length : Nat) : Int)) = true := by simpa using by omega
        rw [e2, sameL_len hL]
        simp
    · have e1 : (((x.Names.length : Nat) : Int) != ((y.Names.length : Nat) : Int)) = true := by simpa using by omega
      have : (x.Names == y.Names) = false := by
        simp only [beq_eq_false_iff_ne, ne_eq]
        intro e; exact hN (by rw [e])
      rw [e1, this]
      simp
theorem law07_TreeLooks_true (a b : Node) (hs : sizeN a ≤ 1048576) (hs' : sizeN b ≤ 1048576) (hn : namesN a ≤ 1048576) (hn' : namesN b ≤ 1048576) : credenzalaw07_TreeLooks a b = some (true, ()) := by
  have hd := deep_size a
  unfold credenzalaw07_TreeLooks
  have r1 : credenzaref07_Deep a = some ((deepN a : Int), ()) := (congrFun (refDeep_n _) a).trans (tree_Deep_eq a hs)
  have r2 : credenzaref07_Size a = some ((sizeN a : Int), ()) := (congrFun (refSize_n _) a).trans (tree_Size_eq a hs)
  have r3 : credenzaref07_Same a b = some (sameN a b, ()) := rsame_n 1000000000000 a b (by omega) hs hs' hn hn'
  have r4 : credenzaref07_IsTarget a = tree_IsTarget a := rfl
  simp only [live_true, Option.bind_some, if_true, re25_eq, tree_Deep_eq a hs, r1, tree_Size_eq a hs, r2, tree_Same_eq a b hs hs' hn hn', r3, r4, beq_self_eq_true]
  simp only [tree_IsTarget, Option.bind_some, beq_self_eq_true]
end Go.D07
