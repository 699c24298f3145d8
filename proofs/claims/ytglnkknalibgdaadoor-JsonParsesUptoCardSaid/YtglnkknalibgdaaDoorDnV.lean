/- Maps, and strings that are gone through. For any program. -/
import Derived.Test.YtglnkknalibgdaaDoorDnX
import Derived.MapKept
import Derived.Laws.MakeOwn
set_option linter.unusedVariables false
set_option linter.unusedSimpArgs false
set_option linter.unnecessarySimpa false
namespace Go.Dn
open Go.Gw Go.RowKit
set_option linter.unusedSectionVars false
variable [Dfr]
set_option linter.unusedSimpArgs false

section
variable {K V : Type}
/-- where a key's entry stands -/
def MapD.pos (eq : K → K → Bool) (k : K) : List (K × V × Nat) → Option Nat
  | [] => none
  | x :: r => bif eq k x.1 then some 0 else (match MapD.pos eq k r with | some j => some (j + 1) | none => none)
def MapD.get (eq : K → K → Bool) (d : MapD K V) (k : K) : Option (V × Nat) := match MapD.pos eq k d.es with
  | some j => (match d.es[j]? with | some x => some x.2 | none => none)
  | none => none
def MapD.put (eq : K → K → Bool) (d : MapD K V) (k : K) (v : V) : MapD K V := match MapD.pos eq k d.es with
  | some j => ⟨d.es.modify j fun x => (x.1, v, x.2.2), d.clock⟩
  | none => ⟨d.es ++ [(k, v, d.clock)], d.clock + 1⟩
def MapD.ent (eq : K → K → Bool) (d : MapD K V) (k : K) (z : V) : MapD K V := match MapD.pos eq k d.es with
  | some _ => d
  | none => ⟨d.es ++ [(k, z, d.clock)], d.clock + 1⟩
def MapD.entV (eq : K → K → Bool) (d : MapD K V) (k : K) (z : V) : V × Nat := match MapD.get eq d k with
  | some x => x
  | none => (z, d.clock)
def MapD.stampAt (b : Int) : List (K × V × Nat) → Option Nat
  | [] => none
  | x :: r => bif ((x.2.2 : Nat) : Int) == b then some 0 else (match MapD.stampAt b r with | some j => some (j + 1) | none => none)
def MapD.sto (d : MapD K V) (b : Int) (v : V) : Option (MapD K V) := match MapD.stampAt b d.es with
  | some j => some ⟨d.es.modify j fun x => (x.1, v, x.2.2), d.clock⟩
  | none => none
def MapD.del (eq : K → K → Bool) (d : MapD K V) (k : K) : MapD K V := match MapD.pos eq k d.es with
  | some j => ⟨d.es.eraseIdx j, d.clock⟩
  | none => d
theorem MapD.pos_lt {eq : K → K → Bool} {k : K} : ∀ {l : List (K × V × Nat)} {j : Nat}, MapD.pos eq k l = some j → ∃ x, l[j]? = some x ∧ eq k x.1 = true
  | [], j, h => by cases h
  | x :: r, j, h => by
    simp only [MapD.pos] at h
    cases hb : eq k x.1 with
    | true => rw [hb] at h; cases h; exact ⟨x, rfl, hb⟩
    | false =>
      rw [hb] at h
      simp only [cond_false] at h
      split at h
      · rename_i i hi
        cases h
        obtain ⟨y, h1, h2⟩ := MapD.pos_lt hi
        exact ⟨y, by simpa using h1, h2⟩
      · cases h
end

def keyEqL {T : Nat → Type} : List (AV T) → List (AV T) → Bool
  | [.v (.string s)], [.v (.string t)] => s.data.toList == t.data.toList
  | [.v (.int _ m)], [.v (.int _ n)] => m == n
  | _, _ => false
def keyEq (Y : Tys) (k : Nat) (a b : Y.T k) : Bool := keyEqL (Y.cells k a) (Y.cells k b)
def ktD : Option IntKind → TypeDesc
  | none => .string
  | some q => .int q
/-- a map's type -/
def mapIs (P : Program) (t : TypeId) (k e : Nat) : Bool := match P.underlying t with | some (.map k' e') => Nat.beq k' k && Nat.beq e' e | _ => false
def keyIs (P : Program) (k : Nat) : Option (Option IntKind) → Bool
  | some none => (match P.underlying k with | some .string => true | _ => false)
  | some (some q) => (match P.underlying k with | some (.int q') => decide (q' = q) | _ => false)
  | none => false
theorem mapIs_ok {P : Program} {t : TypeId} {k e : Nat} (h : mapIs P t k e = true) : P.underlying t = some (.map k e) := by
  unfold mapIs at h
  split at h
  · rename_i k' e' hu
    simp only [Bool.and_eq_true] at h
    rw [hu, Nat.eq_of_beq_eq_true h.1, Nat.eq_of_beq_eq_true h.2]
  · cases h
theorem keyIs_ok {P : Program} {k : Nat} {q : Option (Option IntKind)} (h : keyIs P k q = true) : ∃ d, q = some d ∧ P.underlying k = some (ktD d) := by
  unfold keyIs at h
  split at h
  · split at h
    · rename_i hu; exact ⟨_, rfl, hu⟩
    · cases h
  · split at h
    · rename_i hu; rw [of_decide_eq_true h] at hu; exact ⟨_, rfl, hu⟩
    · cases h
  · cases h

section
variable {Y : Tys} {hY : TysOk Y} {P : Program} {N : Nat} {w0 : World} {F0 : Heap} {D : Own} {H : List (Option Nat)} {w w' : World} {F F' : Heap} {ρ ρ' : List Pl} {os os' : List (Option Obj)} {s s' : Sy Y.T} {a a' : Act} {o : Oper} {R : Type} {ok : Nat → Bool} {r : R} {K : Act → World → Prop} {Q : Exit → Act → World → Prop} {kk : Sy Y.T → Option R}

theorem KeyV.val {q : Option IntKind} {l : List (AV Y.T)} {v : Value} (h : KeyV q l) (r : Rels Y F ρ l [v]) : MapKept.IsKey (ktD q) v ∧ l = [.v v] := by
  cases q with
  | none =>
    obtain ⟨s, rfl⟩ := h
    obtain ⟨u, us, e, r1, r2⟩ := r.inv
    cases e
    rw [r1.v_inv]
    exact ⟨trivial, rfl⟩
  | some q =>
    obtain ⟨n, rfl⟩ := h
    obtain ⟨u, us, e, r1, r2⟩ := r.inv
    cases e
    rw [r1.v_inv]
    exact ⟨rfl, rfl⟩
theorem keyEqL_ok {q : Option IntKind} {u v : Value} (hu : MapKept.IsKey (ktD q) u) (hv : MapKept.IsKey (ktD q) v) : Instr.sameNow (ktD q) u v = some (keyEqL (T := Y.T) [.v u] [.v v]) ∧ (keyEqL (T := Y.T) [.v u] [.v v] = true → u = v) := by
  cases q with
  | none =>
    cases u <;> simp only [MapKept.IsKey, ktD] at hu
    cases v <;> simp only [MapKept.IsKey, ktD] at hv
    rename_i s t
    have e : (s == t) = (s.data.toList == t.data.toList) := by
      rw [Bool.eq_iff_iff, MapKept.bytes_beq, beq_iff_eq]
      constructor
      · rintro rfl; rfl
      · intro h
        cases s; cases t
        congr
        exact Array.toList_inj.1 h
    refine ⟨by show some (s == t) = some (s.data.toList == t.data.toList); rw [e], fun h => ?_⟩
    have h : (s.data.toList == t.data.toList) = true := h
    rw [← e, MapKept.bytes_beq] at h
    rw [h]
  | some q =>
    cases u <;> simp only [MapKept.IsKey, ktD] at hu
    cases v <;> simp only [MapKept.IsKey, ktD] at hv
    subst hu
    subst hv
    refine ⟨by simp [Instr.sameNow, ktD, keyEqL], fun h => ?_⟩
    simpa [keyEqL] using h

theorem EntsRel.length {k e : Nat} : ∀ {xs : List (Y.T k × Y.T e × Nat)} {es : List MapEntry}, EntsRel Y F k e xs es → es.length = xs.length
  | _, _, .nil => rfl
  | _, _, .cons _ r => by simp only [List.length_cons]; rw [EntsRel.length r]
theorem EntsRel.get {k e : Nat} : ∀ {xs : List (Y.T k × Y.T e × Nat)} {es : List MapEntry} {j : Nat} {x : Y.T k × Y.T e × Nat}, EntsRel Y F k e xs es → xs[j]? = some x → ∃ en, es[j]? = some en ∧ EntRel Y F k e x en
  | _, _, j, x, .nil, h => by simp at h
  | _, _, 0, x, .cons h1 r, h => by simp at h; subst h; exact ⟨_, rfl, h1⟩
  | _, _, j + 1, x, .cons h1 r, h => by simpa using EntsRel.get r (by simpa using h)
theorem EntsRel.modify {k e : Nat} {f : Y.T k × Y.T e × Nat → Y.T k × Y.T e × Nat} {g : MapEntry → MapEntry} : ∀ {xs : List (Y.T k × Y.T e × Nat)} {es : List MapEntry} {j : Nat}, EntsRel Y F k e xs es →
    (∀ x en, xs[j]? = some x → es[j]? = some en → EntRel Y F k e x en → EntRel Y F k e (f x) (g en)) → EntsRel Y F k e (xs.modify j f) (es.modify j g)
  | _, _, j, .nil, _ => by cases j <;> exact .nil
  | _, _, 0, .cons h r, hf => .cons (hf _ _ rfl rfl h) r
  | _, _, j + 1, .cons h r, hf => .cons h (EntsRel.modify r fun x en h1 h2 => hf x en (by simpa using h1) (by simpa using h2))
theorem EntsRel.append {k e : Nat} {y : Y.T k × Y.T e × Nat} {en : MapEntry} (h : EntRel Y F k e y en) : ∀ {xs : List (Y.T k × Y.T e × Nat)} {es : List MapEntry}, EntsRel Y F k e xs es → EntsRel Y F k e (xs ++ [y]) (es ++ [en])
  | _, _, .nil => .cons h .nil
  | _, _, .cons h1 r => .cons h1 (EntsRel.append h r)
theorem EntsRel.erase {k e : Nat} : ∀ {xs : List (Y.T k × Y.T e × Nat)} {es : List MapEntry} {j : Nat}, EntsRel Y F k e xs es → EntsRel Y F k e (xs.eraseIdx j) (es.eraseIdx j)
  | _, _, j, .nil => by cases j <;> exact .nil
  | _, _, 0, .cons _ r => r
  | _, _, j + 1, .cons h r => .cons h (EntsRel.erase r)

/-- how the model seeks a key -/
theorem findNow_ok (hY : TysOk Y) {k e : Nat} {q : Option IntKind} (hq : Y.kt k = some q) {kx : Y.T k} {kv : Value} (hk : Rels Y F [] (Y.cells k kx) [kv]) : ∀ {xs : List (Y.T k × Y.T e × Nat)} {es : List MapEntry} {i : Nat}, EntsRel Y F k e xs es →
    Instr.findNow (ktD q) kv es i = some (match MapD.pos (keyEq Y k) kx xs with | some j => (match es[j]? with | some en => some (i + j, en.val) | none => none) | none => none)
  | _, _, i, .nil => rfl
  | _, _, i, .cons (x := x) (en := en) h r => by
    obtain ⟨k1, c1⟩ := (hY.key k q hq kx).val hk
    obtain ⟨k2, c2⟩ := (hY.key k q hq x.1).val h.key
    have hs := (keyEqL_ok (Y := Y) k1 k2).1
    have he : keyEq Y k kx x.1 = keyEqL (T := Y.T) [.v kv] [.v en.key] := by unfold keyEq; rw [c1, c2]
    simp only [Instr.findNow, hs, MapD.pos, he]
    cases hb : keyEqL (T := Y.T) [.v kv] [.v en.key] with
    | true => simp
    | false =>
      simp only [cond_false]
      rw [findNow_ok hY hq hk r]
      cases hp : MapD.pos (keyEq Y k) kx _ with
      | none => simp
      | some j =>
        simp only [List.getElem?_cons_succ]
        cases hj : (_ : List MapEntry)[j]? with
        | none => simp
        | some en' => simp only [Option.some.injEq, Prod.mk.injEq, and_true]; omega
theorem key_same (hY : TysOk Y) {k e : Nat} {q : Option IntKind} (hq : Y.kt k = some q) {kx : Y.T k} {kv : Value} {x : Y.T k × Y.T e × Nat} {en : MapEntry} (hk : Rels Y F [] (Y.cells k kx) [kv]) (h : EntRel Y F k e x en) (he : keyEq Y k kx x.1 = true) : en.key = kv := by
  obtain ⟨k1, c1⟩ := (hY.key k q hq kx).val hk
  obtain ⟨k2, c2⟩ := (hY.key k q hq x.1).val h.key
  have e2 : keyEq Y k kx x.1 = keyEqL (T := Y.T) [.v kv] [.v en.key] := by unfold keyEq; rw [c1, c2]
  rw [e2] at he
  exact ((keyEqL_ok (Y := Y) k1 k2).2 he).symm

/-- a value packed, as it is read -/
theorem first_pack (hY : TysOk Y) {e : Nat} {x : Y.T e} {us : List Value} {av : AV Y.T} {b : Bool} (hr : isRowB P e = some b) (hb : Y.row e = b) (hs : sizeIs P e (Y.sz e) = true) (hu : Rels Y F ρ (Y.cells e x) us) (h : firstA P e (Y.cells e x) = some av) : Rel Y F ρ av (packV (Y.row e) us) := by
  unfold firstA at h
  rw [hr] at h
  have hs := sizeIs_ok hs
  rw [hs] at h
  subst hb
  cases hrow : Y.row e with
  | true =>
    rw [hrow] at h
    simp only at h
    obtain ⟨_, h⟩ := bif_some h
    cases h
    have hl := hY.len e x
    rw [List.take_of_length_le (by omega)]
    exact .agg hu.1 hu.2
  | false =>
    rw [hrow] at h
    simp only at h
    obtain ⟨u, h1, h2⟩ := hu.get h
    show Rel Y F ρ av (us.headD undef)
    cases us with
    | nil => simp at h1
    | cons u0 r => simp at h1; subst h1; exact h2
def rowSame (P : Program) (e : Nat) (b : Bool) : Bool := match isRowB P e with | some c => (c && b) || (!c && !b) | none => false
theorem rowSame_ok {e : Nat} {b : Bool} (h : rowSame P e b = true) : isRowB P e = some b := by
  unfold rowSame at h
  split at h
  · rename_i c hc
    rw [hc]
    cases c <;> cases b <;> first | rfl | cases h
  · cases h
/-- a zero value, packed -/
def zeroPk (b : Bool) (z : Value) : Bool := match z with
  | .agg _ => b
  | .tuple _ => false
  | _ => !b
theorem zeroPk_ok {b : Bool} {z : Value} (h : zeroPk b z = true) : packV b z.cells.toList = z := by
  unfold zeroPk at h
  split at h
  · subst h; simp [packV, Value.cells]
  · cases h
  · rename_i h1 h2
    simp only [Bool.not_eq_true'] at h
    subst h
    unfold packV
    simp only [cond_false]
    cases z <;> first | rfl | exact absurd rfl (h1 _) | exact absurd rfl (h2 _)
/-- a value that is put in, packed -/
def valPk (b : Bool) : AV Y.T → Bool
  | .agg _ => b
  | x => !b && x.one
theorem valPk_ok {b : Bool} {x : AV Y.T} {u : Value} (h : valPk b x = true) (r : Rel Y F ρ x u) : packV b u.cells.toList = u := by
  unfold valPk at h
  split at h
  · subst h
    cases r with
    | agg hl hv => simp [packV, Value.cells]
  · simp only [Bool.and_eq_true, Bool.not_eq_true'] at h
    have h1 := r.one h.2
    rw [h.1]
    unfold packV
    simp only [cond_false]
    cases u <;> first | rfl | cases h1

/-- an object is changed in its place -/
theorem Cy.setObj (h : Cy hY N w0 F0 D H w F ρ os s a) {k : Nat} {x x' : Mem Y.T} {p : Pl} {ob ob' : Obj} (hok : ok k = true) (hk : s.m[k]? = some x) (hp : ρ[k]? = some p) (ho : os[k]? = some (some ob))
    (hr : MemRel hY F ρ x' p (some ob')) (hst : x.still = false) (hos : w'.os = w.os) (htape : w'.tape = w.tape) (hout : w'.output = w.output) (hsize : w'.heap.size = w.heap.size)
    (hb : w'.heap[p.blk]? = some ob') (hne : ∀ x, x ≠ p.blk → w'.heap[x]? = w.heap[x]?) :
    Cy hY N w0 F0 D H w' F ρ (os.set k (some ob')) ⟨s.l, s.m.set k x'⟩ a ∧ Tr ok F ρ os s.m F ρ (os.set k (some ob')) (s.m.set k x') := by
  refine ⟨⟨h.e, by simp [h.len], by simp [h.lon], fun j y q r h1 h2 h3 => ?_, ?_, fun j b e1 => ⟨(h.fix j b e1).1, fun y h2 => ?_⟩, h.long⟩, ⟨.refl F, Nat.le_refl _, fun i2 q o2 hk h1 h2 => ⟨h1, .inl ?_⟩, fun i2 ty2 l q h1 h2 => ⟨?_, q, h2, rfl⟩⟩⟩
  · rw [List.getElem?_set] at h1 h3
    split at h1
    · rename_i hj
      subst hj
      have hl : k < s.m.length := (List.getElem?_eq_some_iff.1 hk).1
      rw [if_pos hl] at h1
      rw [if_pos rfl, if_pos (by rw [h.lon, ← h.len]; exact hl)] at h3
      cases h1; cases h3
      rw [hp] at h2; cases h2
      exact hr
    · rename_i hj
      rw [if_neg hj] at h3
      exact h.mem j y q r h1 h2 h3
  · rw [pts_seto hp]
    exact h.st.write (pts_get hp ho) hos htape hout hsize hb hne
  · rw [List.getElem?_set] at h2
    split at h2
    · rename_i hj
      subst hj
      have := (h.fix _ b e1).2 _ hk
      rw [hst] at this; cases this
    · exact (h.fix j b e1).2 y h2
  · rw [List.getElem?_set, if_neg (fun e => by subst e; rw [hok] at hk; cases hk)]; exact h2
  · rw [List.getElem?_set]
    split
    · rename_i e1
      subst e1
      rw [hk] at h1; cases h1; cases hst
    · exact ⟨_, _, h1⟩
theorem set_heap {r : Nat} {ob : Obj} (o' : Obj) (hb : w.heap[r]? = some ob) : ({ w with heap := w.heap.setIfInBounds r o' } : World).heap.size = w.heap.size ∧ ({ w with heap := w.heap.setIfInBounds r o' } : World).heap[r]? = some o' ∧ ∀ x, x ≠ r → ({ w with heap := w.heap.setIfInBounds r o' } : World).heap[x]? = w.heap[x]? :=
  ⟨by simp, (MapKept.heap_set hb).1, (MapKept.heap_set hb).2⟩

def zeroD (Y : Tys) (P : Program) (e : Nat) : Option (Y.T e) := match P.info? e with
  | some i => (match i.zero with
    | some z => bif zeroPk (Y.row e) z then Y.close e (z.cells.toList.map .v) else none
    | none => none)
  | none => none
theorem zeroD_ok (hY : TysOk Y) {e : Nat} {zx : Y.T e} (h : zeroD Y P e = some zx) : ∃ z, (∀ w, (zeroValue e).run P w = .ok z w) ∧ ∀ F, ∃ us, Rels Y F [] (Y.cells e zx) us ∧ z = packV (Y.row e) us := by
  unfold zeroD at h
  split at h
  · rename_i i hi
    split at h
    · rename_i z hz
      obtain ⟨hp, h⟩ := bif_do h
      exact ⟨z, fun w => zeroValue_run hi hz w, fun F => ⟨_, hY.fit e _ _ h F [] _ (Rels.v z.cells.toList), (zeroPk_ok hp).symm⟩⟩
    · cases h
  · cases h
def elemOk (Y : Tys) (P : Program) (t : TypeId) (k e : Nat) : Bool := mapIs P t k e && keyIs P k (Y.kt k) && rowSame P e (Y.row e) && sizeIs P e (Y.sz e)
def keyA (Y : Tys) (k : Nat) (x : AV Y.T) : Option (Y.T k) := match x.cells with | some cs => Y.close k cs | none => none
theorem keyA_ok (hY : TysOk Y) {k : Nat} {q : Option IntKind} (hq : Y.kt k = some q) {x : AV Y.T} {kx : Y.T k} {u : Value} (h : keyA Y k x = some kx) (h1 : x.one = true) (hf : x.free = true) (r : Rel Y F ρ x u) : Rels Y F [] (Y.cells k kx) [u] := by
  unfold keyA at h
  split at h
  · rename_i cs hc
    have r2 := AV.cells_rel hc r
    have h3 := hY.fit k cs kx h F ρ _ r2
    have h4 := r.one h1
    have h5 : u.cells.toList = [u] := by cases u <;> first | rfl | cases h4
    rw [h5] at h3
    exact h3.closed hY (hY.free k kx)
  · cases h

/-- a look into a map -/
def lookMA (Y : Tys) (P : Program) (l : AEnv Y.T) (m : List (Mem Y.T)) : Op → Option (AV Y.T)
  | .lookup t x ix okk => match evA l x, evA l ix with
    | some (.own j), some kv => match m[j]? with
      | some (.mp k e d) => bif elemOk Y P t k e && kv.one && kv.free then (match keyA Y k kv, zeroD Y P e with
        | some kx, some zx => (match firstA P e (Y.cells e (MapD.entV (keyEq Y k) d kx zx).1) with
          | some av => some (bif okk then .tup [av, .v (.bool (MapD.get (keyEq Y k) d kx).isSome)] else av)
          | none => none)
        | _, _ => none) else none
      | _ => none
    | _, _ => none
  | .call c => match c.callee, c.args.toList, c.argTypes.toList with
    | .builtin .len, [x], [t] => match evA l x with
      | some (.own j) => match m[j]? with
        | some (.mp k e d) => bif mapIs P t k e then some (.v (.int .i64 (d.es.length : Int))) else none
        | _ => none
      | _ => none
    | _, _, _ => none
  | _ => none
theorem elemOk_ok {t : TypeId} {k e : Nat} (h : elemOk Y P t k e = true) : P.underlying t = some (.map k e) ∧ (∃ q, Y.kt k = some q ∧ P.underlying k = some (ktD q)) ∧ isRowB P e = some (Y.row e) ∧ sizeIs P e (Y.sz e) = true := by
  simp only [elemOk, Bool.and_eq_true] at h
  exact ⟨mapIs_ok h.1.1.1, keyIs_ok h.1.1.2, rowSame_ok h.1.2, h.2⟩
theorem pos_get {k e : Nat} {d : MapD (Y.T k) (Y.T e)} {kx : Y.T k} {es : List MapEntry} (hes : EntsRel Y F k e d.es es) :
    (MapD.pos (keyEq Y k) kx d.es = none ∧ MapD.get (keyEq Y k) d kx = none) ∨ ∃ j x en, MapD.pos (keyEq Y k) kx d.es = some j ∧ d.es[j]? = some x ∧ es[j]? = some en ∧ EntRel Y F k e x en ∧ keyEq Y k kx x.1 = true ∧ MapD.get (keyEq Y k) d kx = some x.2 := by
  cases hp : MapD.pos (keyEq Y k) kx d.es with
  | none => exact .inl ⟨rfl, by unfold MapD.get; rw [hp]⟩
  | some j =>
    obtain ⟨x, h1, h2⟩ := MapD.pos_lt hp
    obtain ⟨en, h3, h4⟩ := hes.get h1
    exact .inr ⟨j, x, en, rfl, h1, h3, h4, h2, by unfold MapD.get; rw [hp]; simp only [h1]⟩
theorem lookMA_ok {l : AEnv Y.T} {m : List (Mem Y.T)} {av : AV Y.T} (h : Ey Y N F ρ l a) (hM : My hY F ρ os m w) (e : lookMA Y P l m o.op = some av) : Yld hY P F ρ os m a o av := by
  unfold lookMA at e
  split at e
  · rename_i t x ix okk hop
    split at e
    · rename_i j kv hx hix
      split at e
      · rename_i k el d hj
        obtain ⟨hc, e⟩ := bif_do e
        simp only [Bool.and_eq_true] at hc
        obtain ⟨⟨hel, hone⟩, hfree⟩ := hc
        obtain ⟨hmt, ⟨q, hq, hkd⟩, hrow, hsz⟩ := elemOk_ok hel
        split at e
        · rename_i kx zx hkx hzx
          split at e
          · rename_i av1 hav
            obtain ⟨p, o1, hp, ho1, ⟨hmp, es, rfl, hes⟩, hheap⟩ := hM j _ hj
            have hkr := keyA_ok hY hq hkx hone hfree (h.eval hix)
            obtain ⟨z, hz, hzus⟩ := zeroD_ok hY hzx
            obtain ⟨zus, hz1, hz2⟩ := hzus F
            have hrx := h.eval hx
            generalize hev : a.eval x = ux at hrx
            cases hrx with
            | @own _ pl hpl =>
            rw [hp] at hpl; cases hpl
            have hkey := ((hY.key k q hq kx).val hkr).1
            -- the value
            have main : ∃ v, Rel Y F ρ av1 v ∧ ∀ w, w.heap[p.blk]? = some (.map es d.clock) → (Instr.lookup t (.map (some p.blk)) (a.eval ix) okk).run P w = .ok (bif okk then .tuple #[v, .bool (MapD.get (keyEq Y k) d kx).isSome] else v) w := by
              have hfn := findNow_ok hY hq hkr hes (i := 0)
              rcases pos_get (kx := kx) hes with ⟨h1, h2⟩ | ⟨jj, xx, en, h1, h2, h3, h4, h5, h6⟩
              · rw [h1] at hfn
                simp only at hfn
                have e2 : (MapD.entV (keyEq Y k) d kx zx).1 = zx := by unfold MapD.entV; rw [h2]
                rw [e2] at hav
                refine ⟨z, ?_, fun w hw => ?_⟩
                · rw [hz2]
                  exact (first_pack hY hrow rfl hsz hz1 hav).mono (.refl F) (fun _ _ h => by simp at h)
                · rw [h2]
                  unfold Instr.lookup
                  simp only [Sem.run_bind, run_underlying hmt, Result.andThen_ok, MapKept.run_getObj_map hw, Sem.run_pure, MapKept.run_checkKey hkd hkey _ 9999, MapKept.run_findKey hkd hfn, hz w]
                  cases okk <;> rfl
              · rw [h1] at hfn
                simp only [h3] at hfn
                have e2 : (MapD.entV (keyEq Y k) d kx zx).1 = xx.2.1 := by unfold MapD.entV; rw [h6]
                rw [e2] at hav
                obtain ⟨us, hu1, hu2⟩ := h4.val
                refine ⟨en.val, ?_, fun w hw => ?_⟩
                · rw [hu2]
                  exact (first_pack hY hrow rfl hsz hu1 hav).mono (.refl F) (fun _ _ h => by simp at h)
                · rw [h6]
                  unfold Instr.lookup
                  simp only [Sem.run_bind, run_underlying hmt, Result.andThen_ok, MapKept.run_getObj_map hw, Sem.run_pure, MapKept.run_checkKey hkd hkey _ 9999, MapKept.run_findKey hkd hfn]
                  cases okk <;> rfl
            obtain ⟨v, hv, hrun⟩ := main
            cases e
            refine ⟨bif okk then .tuple #[v, .bool (MapD.get (keyEq Y k) d kx).isSome] else v, ?_, fun w' hv' hM' => ?_⟩
            · cases okk with
              | true => exact .tup (vs := [v, .bool (MapD.get (keyEq Y k) d kx).isSome]) rfl (Rels.cons hv (Rels.cons .v Rels.nil)).2
              | false => exact hv
            · obtain ⟨p', o2, hp', ho2, _, hw'⟩ := hM' j _ hj
              rw [hp] at hp'; cases hp'
              rw [ho1] at ho2; cases ho2
              unfold execOp; rw [hop]
              simp only [hev, Pl.val_mp hmp, Sem.run_bind, hrun w' (hw' _ rfl), Result.andThen_ok, Sem.run_pure]
          · cases e
        · cases e
      · cases e
    · cases e
  · rename_i c hop
    split at e
    · rename_i x t hcal hargs hts
      split at e
      · rename_i j hx
        split at e
        · rename_i k el d hj
          obtain ⟨hmt, e⟩ := bif_some e
          cases e
          obtain ⟨p, o1, hp, ho1, ⟨hmp, es, rfl, hes⟩, hheap⟩ := hM j _ hj
          have hrx := h.eval hx
          generalize hev : a.eval x = ux at hrx
          cases hrx with
          | @own _ pl hpl =>
          rw [hp] at hpl; cases hpl
          refine ⟨_, .v, fun w' _ hM' => ?_⟩
          obtain ⟨p', o2, hp', ho2, _, hw'⟩ := hM' j _ hj
          rw [hp] at hp'; cases hp'
          rw [ho1] at ho2; cases ho2
          have hargs' : c.args.map a.eval = #[.map (some p.blk)] := by
            rw [← Array.toList_inj, Array.toList_map, hargs]; simp [hev, Pl.val_mp hmp]
          have hts' : c.argTypes = #[t] := by rw [← Array.toList_inj, hts]
          have hlen : es.size = d.es.length := by rw [← Array.length_toList]; exact hes.length
          unfold execOp; rw [hop]
          simp only [hcal, hargs', hts', resolve, invoke, Deferred.ofValue]
          show ((do pure (Next.value (← Builtin.len_ #[t] o.type #[.map (some p.blk)])) : Sem Next)).run P w' = _
          simp [Builtin.len_, run_underlying (mapIs_ok hmt), goInt, MapKept.run_getObj_map (hw' _ rfl), hlen]
        · cases e
      · cases e
    · cases e
  · cases e

/-- room for a slice of so many elements -/
def roomI (n : Int) : Option Nat := if 0 ≤ n ∧ n ≤ 274877906944 then some n.toNat else none
def sameOp : Operand → Operand → Bool
  | .tmp t, .tmp u => Nat.beq t u
  | .const (.int _ m), .const (.int _ n) => decide (m = n)
  | _, _ => false
theorem sameOp_ok {x y : Operand} (h : sameOp x y = true) (a : Act) : ∀ {p q : IntKind} {m n : Int}, a.eval x = .int p m → a.eval y = .int q n → m = n := by
  unfold sameOp at h
  split at h
  · rw [Nat.eq_of_beq_eq_true h]
    intro p q m n h1 h2; rw [h1] at h2; cases h2; rfl
  · intro p q m n h1 h2; cases h1; cases h2; exact of_decide_eq_true h
  · cases h
/-- a slice with a bound of its room -/
def cut3 {α : Type} (s : List α) (lo hi mx : Int) : Option (List α) := if 0 ≤ lo ∧ lo ≤ hi ∧ hi ≤ mx ∧ mx ≤ s.length then some ((s.drop lo.toNat).take (hi.toNat - lo.toNat)) else none
def cut3A {R : Type} (Y : Tys) (P : Program) (l : AEnv Y.T) (op : Op) (k : AV Y.T → Option R) : Option (Option R) := match op with
  | .slice t x lo hi (some mx) => match bndA l lo, bndA l hi, bndA l (some mx), evA l x with
    | some ol, some (some nh), some (some nm), some (.sl e xs) => bif elemIs P t e && sizeIs P e (Y.sz e) then some (Option.bind (cut3 xs (ol.getD 0) nh nm) fun r => k (.sl e r)) else none
    | _, _, _, _ => none
  | _ => none
theorem cut3A_ok {k : AV Y.T → Option R} {l : AEnv Y.T} {m : List (Mem Y.T)} (h : Ey Y N F ρ l a) (hM : My hY F ρ os m w) (e : cut3A Y P l o.op k = some (some r)) : ∃ x, Yld hY P F ρ os m a o x ∧ k x = some r := by
  unfold cut3A at e
  split at e
  · rename_i t x lo hi mx hop
    split at e
    · rename_i ol nh nm ee xs hl hh hm hx
      obtain ⟨ht, e⟩ := bif_do e
      obtain ⟨v, hv, hk⟩ := bnd_do e
      simp only [Bool.and_eq_true] at ht
      have hT := elemB_under (elemIs_ok ht.1)
      have hS := sizeIs_ok ht.2
      have hr := h.eval hx
      generalize e1 : a.eval x = ux at hr
      cases hr with
      | @sl _ _ A c b off vs hc hA hvs hh2 =>
        unfold cut3 at hv
        split at hv
        · rename_i hcc
          cases hv
          have hlen : ((xs.drop (ol.getD 0).toNat).take (nh.toNat - (ol.getD 0).toNat)).length = nh.toNat - (ol.getD 0).toNat := by
            simp; omega
          have hb : (Instr.sliceBounds true xs.length c (lo.map a.eval) (hi.map a.eval) (some (a.eval mx))).run P w = .ok ((ol.getD 0).toNat, nh.toNat, nm.toNat) w ∧ ∀ w, (Instr.sliceBounds true xs.length c (lo.map a.eval) (hi.map a.eval) (some (a.eval mx))).run P w = .ok ((ol.getD 0).toNat, nh.toNat, nm.toNat) w := by
            have gen : ∀ w, (Instr.sliceBounds true xs.length c (lo.map a.eval) (hi.map a.eval) (some (a.eval mx))).run P w = .ok ((ol.getD 0).toNat, nh.toNat, nm.toNat) w := by
              intro w
              obtain ⟨c1, c2, c3, c4⟩ := hcc
              rcases bndA_eval h hm with ⟨_, q⟩ | ⟨ym, km, nm', e3, e4, e5⟩
              · cases q
              · cases e3; cases e4
                rcases bndA_eval h hh with ⟨_, q⟩ | ⟨yh, kh, nh', rfl, e7, e8⟩
                · cases q
                · cases e7
                  have b1 : nm ≤ (c : Int) := by omega
                  have b2 : nh ≤ ((nm.toNat : Nat) : Int) := by omega
                  rcases bndA_eval h hl with ⟨rfl, rfl⟩ | ⟨yl, kl, nl', rfl, rfl, e9⟩
                  · simp only [Option.getD_none] at c1 c2
                    simp [Instr.sliceBounds, e5, e8, sliceBound_run (show 0 ≤ nm by omega) b1, sliceBound_run (show 0 ≤ nh by omega) b2]
                  · simp only [Option.getD_some] at c1 c2
                    have b3 : nl' ≤ ((nh.toNat : Nat) : Int) := by omega
                    simp [Instr.sliceBounds, e5, e8, e9, sliceBound_run (show 0 ≤ nm by omega) b1, sliceBound_run (show 0 ≤ nh by omega) b2, sliceBound_run c1 b3]
            exact ⟨gen w, gen⟩
          have hb := hb.2
          generalize hi0 : (ol.getD 0).toNat = i at hlen hk hb
          generalize hm0 : nh.toNat - i = mm at hlen hk
          have hget : ∀ j x, ((xs.drop i).take mm)[j]? = some x → xs[i + j]? = some x := fun j x hx => by
            rw [List.getElem?_take] at hx
            split at hx
            · rwa [List.getElem?_drop] at hx
            · cases hx
          refine ⟨_, ⟨.slice (if nm.toNat = i then A else A.map (·.add (i * Y.sz ee))) ((xs.drop i).take mm).length (nm.toNat - i), ?_, fun w _ _ => ?_⟩, hk⟩
          · refine .sl b (off + i * Y.sz ee) (fun j => vs (i + j)) (by rw [hlen]; omega) (fun j x hx => ?_) (fun j x hx => ?_) (fun j x q a u hx h1 h2 => hh2 _ _ q a u (hget j x hx) h1 h2)
            · have h1 := hget j x hx
              have hlt := (List.getElem?_eq_some_iff.1 h1).1
              have hj := (List.getElem?_eq_some_iff.1 hx).1
              have hne : nm.toNat ≠ i := by omega
              rw [if_neg hne, hA _ _ h1]
              simp [add_at]
            · have h1 := hvs _ _ (hget j x hx)
              refine ⟨h1.1, ?_⟩
              have := h1.2
              rwa [Nat.add_mul, ← Nat.add_assoc] at this
          · unfold execOp; rw [hop]
            simp only [Instr.sliceAt, Sem.run_bind, run_underlying hT, Result.andThen_ok, e1, Instr.slice, Option.map_some, hb w, sizeB_run hS, Sem.run_pure, hlen, pure_bind]
            rw [hm0]
        · cases hv
    · cases e
  · cases e
/-- a map made, written; a string gone through -/
def mapA (Y : Tys) (P : Program) (N : Nat) (ok : Nat → Bool) (s : Sy Y.T) (o : Oper) (kk : Sy Y.T → Option R) : Option R := match o.op with
  | .makeMap t none => match P.underlying t with
    | some (.map k e) => fin N o ⟨s.l, s.m ++ [.mp k e ⟨[], 0⟩]⟩ (.own s.m.length) kk
    | _ => none
  | .mapUpdate t x ix v => match evA s.l x, evA s.l ix, evA s.l v with
    | some (.own j), some kv, some vv => match s.m[j]? with
      | some (.mp k e d) => bif elemOk Y P t k e && kv.one && kv.free && valPk (Y.row e) vv && ok j then (match keyA Y k kv, keyA Y e vv with
        | some kx, some vx => fin N o ⟨s.l, s.m.set j (.mp k e (MapD.put (keyEq Y k) d kx vx))⟩ (.v undef) kk
        | _, _ => none) else none
      | _ => none
    | _, _, _ => none
  | .mapEntry t x ix => match evA s.l x, evA s.l ix with
    | some (.own j), some kv => match s.m[j]? with
      | some (.mp k e d) => bif elemOk Y P t k e && kv.one && kv.free && ok j then (match keyA Y k kv, zeroD Y P e with
        | some kx, some zx => (match firstA P e (Y.cells e (MapD.entV (keyEq Y k) d kx zx).1) with
          | some av => fin N o ⟨s.l, s.m.set j (.mp k e (MapD.ent (keyEq Y k) d kx zx))⟩ (.tup [av, .v (.int .i64 ((MapD.entV (keyEq Y k) d kx zx).2 : Int))]) kk
          | none => none)
        | _, _ => none) else none
      | _ => none
    | _, _ => none
  | .entryStore _ x st v => match evA s.l x, evA s.l st, evA s.l v with
    | some (.own j), some (.v (.int _ b)), some vv => match s.m[j]? with
      | some (.mp k e d) => bif valPk (Y.row e) vv && ok j then (match keyA Y e vv with
        | some vx => Option.bind (MapD.sto d b vx) fun d' => fin N o ⟨s.l, s.m.set j (.mp k e d')⟩ (.v undef) kk
        | none => none) else none
      | _ => none
    | _, _, _ => none
  | .call c => match c.callee, c.args.toList, c.argTypes.toList with
    | .builtin .delete, [x, ix], [t, _] => match evA s.l x, evA s.l ix with
      | some (.own j), some kv => match s.m[j]? with
        | some (.mp k e d) => bif elemOk Y P t k e && kv.one && kv.free && ok j then (match keyA Y k kv with
          | some kx => fin N o ⟨s.l, s.m.set j (.mp k e (MapD.del (keyEq Y k) d kx))⟩ (.tup []) kk
          | none => none) else none
        | _ => none
      | _, _ => none
    | _, _, _ => none
  | .makeSlice t x y => match evA s.l x, evA s.l y with
    | some (.v (.int _ n)), some (.v (.int _ _)) => match elemB P t with
      | some e => match zeroD Y P e, P.info? e with
        | some zx, some i => bif sameOp x y && sizeIs P e (Y.sz e) && Nat.ble i.bytes 256 then Option.bind (roomI n) fun c => fin N o ⟨s.l, s.m ++ [.arr e (List.replicate c zx)]⟩ (.own s.m.length) kk else none
        | _, _ => none
      | none => none
    | _, _ => none
  | .range t x => match evA s.l x with
    | some (.v (.string q)) => bif isStrB P t then fin N o ⟨s.l, s.m ++ [.it q.data.toList 0]⟩ (.ptr s.m.length 0) kk else none
    | _ => none
  | .next x true => match evA s.l x with
    | some (.ptr j 0) => match s.m[j]? with
      | some (.it q pos) => bif ok j then (if Nat.blt pos q.length = true then fin N o ⟨s.l, s.m.set j (.it q (pos + (Utf8.decode ⟨⟨q⟩⟩ pos).2))⟩ (.tup [.v (.bool true), .v (.int .i64 (pos : Int)), .v (.int .i32 ((Utf8.decode ⟨⟨q⟩⟩ pos).1 : Int))]) kk
          else fin N o s (.tup [.v (.bool false)]) kk) else none
      | _ => none
    | _ => none
  | _ => none

theorem stampAt_ok {k e : Nat} {b : Int} : ∀ {xs : List (Y.T k × Y.T e × Nat)} {es : List MapEntry}, EntsRel Y F k e xs es → es.findIdx? (fun en => (en.born : Int) == b) = MapD.stampAt b xs
  | _, _, .nil => rfl
  | _, _, .cons h r => by
    simp only [List.findIdx?_cons, MapD.stampAt, h.born]
    rw [stampAt_ok r]
    cases ((_ : Nat) : Int) == b with
    | true => rfl
    | false => simp; cases MapD.stampAt b _ <;> rfl
theorem mapA_ok (h : Cy hY N w0 F0 D H w F ρ os s a) (e : mapA Y P N ok s o kk = some r) (hg : Goes hY N w0 F0 D H ok F ρ os s.m kk r K) : o.wp P a w K Q := by
  -- a map's object is written
  have put : ∀ {j k e : Nat} {d d' : MapD (Y.T k) (Y.T e)} {p : Pl} {es es' : Array MapEntry} {av : AV Y.T} {u : Value}, s.m[j]? = some (.mp k e d) → ρ[j]? = some p → os[j]? = some (some (.map es d.clock)) → p.mp = true → ok j = true →
      EntsRel Y F k e d'.es es'.toList → Rel Y F ρ av u → ((execOp a.eval o).run P w = .ok (.value u) { w with heap := w.heap.setIfInBounds p.blk (.map es' d'.clock) } ∨ (u = undef ∧ (execOp a.eval o).run P w = .ok .skip { w with heap := w.heap.setIfInBounds p.blk (.map es' d'.clock) })) →
      fin N o ⟨s.l, s.m.set j (.mp k e d')⟩ av kk = some r → o.wp P a w K Q := by
    intro j k e d d' p es es' av u hj hp ho hmp hok hes hrel hrun hk
    have hb := h.blk hp ho
    obtain ⟨q1, q2, q3⟩ := set_heap (.map es' d'.clock) hb
    obtain ⟨h2, t2⟩ := h.setObj (w' := { w with heap := w.heap.setIfInBounds p.blk (.map es' d'.clock) }) (x' := .mp k e d') hok hj hp ho ⟨hmp, es', rfl, hes⟩ rfl rfl rfl rfl q1 q2 q3
    rcases hrun with hrun | ⟨hu, hrun⟩
    · exact fin_ok (s := s) h2 t2 hrun hrel hk hg
    · subst hu
      unfold fin at hk
      obtain ⟨hd, hk⟩ := bif_do hk
      exact wp_of_skip hrun (hg _ _ _ _ _ _ (h2.put hd hrel) t2 hk)
  unfold mapA at e
  split at e
  · rename_i t hop
    split at e
    · rename_i k el hu
      have h1 := h.alloc (x := .mp k el ⟨[], 0⟩) (p := ⟨w.heap.size, none, 0, 0, true⟩) (ob := .map #[] 0) rfl ⟨rfl, #[], rfl, .nil⟩
      refine fin_ok (s := s) h1 (Tr.grow ok (.refl F)) ?_ (.own (pl := ⟨w.heap.size, none, 0, 0, true⟩) (by rw [h.len]; simp)) e hg
      unfold execOp; rw [hop]
      rfl
    · cases e
  · rename_i t x ix v hop
    split at e
    · rename_i j kv vv hx hix hv
      split at e
      · rename_i k el d hj
        obtain ⟨hc, e⟩ := bif_do e
        simp only [Bool.and_eq_true] at hc
        obtain ⟨⟨⟨⟨hel, hone⟩, hfree⟩, hpk⟩, hok⟩ := hc
        obtain ⟨hmt, ⟨q, hq, hkd⟩, hrow, hsz⟩ := elemOk_ok hel
        split at e
        · rename_i kx vx hkx hvx
          obtain ⟨p, o1, hp, ho1, hmp, es, rfl, hes⟩ := h.at hj
          have hb := h.blk hp ho1
          have hkr := keyA_ok hY hq hkx hone hfree (h.e.eval hix)
          have hrv := h.e.eval hv
          have hvr : Rels Y F [] (Y.cells el vx) (a.eval v).cells.toList := by
            unfold keyA at hvx
            split at hvx
            · rename_i cs hcs
              exact (hY.fit el cs vx hvx F ρ _ (AV.cells_rel hcs hrv)).closed hY (hY.free el vx)
            · cases hvx
          have hpack := valPk_ok hpk hrv
          have hrx := h.e.eval hx
          generalize hev : a.eval x = ux at hrx
          cases hrx with
          | @own _ pl hpl =>
          rw [hp] at hpl; cases hpl
          have hkey := ((hY.key k q hq kx).val hkr).1
          have hfn := findNow_ok hY hq hkr hes (i := 0)
          rcases pos_get (kx := kx) hes with ⟨h1, h2⟩ | ⟨jj, xx, en, h1, h2, h3, h4, h5, h6⟩
          · rw [h1] at hfn
            simp only at hfn
            have e2 : MapD.put (keyEq Y k) d kx vx = ⟨d.es ++ [(kx, vx, d.clock)], d.clock + 1⟩ := by unfold MapD.put; rw [h1]
            rw [e2] at e
            refine put (es' := es.push { key := a.eval ix, val := a.eval v, born := d.clock }) hj hp ho1 hmp hok ?_ (.v (x := undef)) (.inr ⟨rfl, ?_⟩) e
            · rw [Array.toList_push]
              exact EntsRel.append ⟨rfl, hkr, _, hvr, hpack.symm⟩ hes
            · unfold execOp; rw [hop]
              simp only [hev, Pl.val_mp hmp]
              unfold Instr.mapUpdate
              simp only [Sem.run_bind, run_underlying hmt, Result.andThen_ok, MapKept.run_getObj_map hb, Sem.run_pure, MapKept.run_checkKey hkd hkey _ 9999, MapKept.run_findKey hkd hfn, MapKept.run_setObj_map _ hb]
          · rw [h1] at hfn
            simp only [h3, Nat.zero_add] at hfn
            have e2 : MapD.put (keyEq Y k) d kx vx = ⟨d.es.modify jj fun x => (x.1, vx, x.2.2), d.clock⟩ := by unfold MapD.put; rw [h1]
            rw [e2] at e
            have hk2 := key_same hY hq hkr h4 h5
            have h3' : es[jj]? = some en := by rw [← Array.getElem?_toList]; exact h3
            refine put (es' := es.modify jj fun e => { e with key := a.eval ix, val := a.eval v }) hj hp ho1 hmp hok ?_ (.v (x := undef)) (.inr ⟨rfl, ?_⟩) e
            · rw [Array.toList_modify]
              refine hes.modify fun y en2 g1 g2 g3 => ?_
              rw [h2] at g1; cases g1
              rw [h3] at g2; cases g2
              exact ⟨g3.born, by have := g3.key; rw [hk2] at this; exact this, _, hvr, hpack.symm⟩
            · unfold execOp; rw [hop]
              simp only [hev, Pl.val_mp hmp]
              unfold Instr.mapUpdate
              simp only [Sem.run_bind, run_underlying hmt, Result.andThen_ok, MapKept.run_getObj_map hb, Sem.run_pure, MapKept.run_checkKey hkd hkey _ 9999, MapKept.run_findKey hkd hfn, h3', Option.map_some, Option.getD_some, hk2, MapKept.run_keyThatStays hkey, MapKept.run_setObj_map _ hb]
        · cases e
      · cases e
    · cases e
  · rename_i t x ix hop
    split at e
    · rename_i j kv hx hix
      split at e
      · rename_i k el d hj
        obtain ⟨hc, e⟩ := bif_do e
        simp only [Bool.and_eq_true] at hc
        obtain ⟨⟨⟨hel, hone⟩, hfree⟩, hok⟩ := hc
        obtain ⟨hmt, ⟨q, hq, hkd⟩, hrow, hsz⟩ := elemOk_ok hel
        split at e
        · rename_i kx zx hkx hzx
          split at e
          · rename_i av hav
            obtain ⟨p, o1, hp, ho1, hmp, es, rfl, hes⟩ := h.at hj
            have hb := h.blk hp ho1
            have hkr := keyA_ok hY hq hkx hone hfree (h.e.eval hix)
            obtain ⟨z, hz, hzus⟩ := zeroD_ok (P := P) hY hzx
            obtain ⟨zus, hz1, hz2⟩ := hzus F
            have hrx := h.e.eval hx
            generalize hev : a.eval x = ux at hrx
            cases hrx with
            | @own _ pl hpl =>
            rw [hp] at hpl; cases hpl
            have hkey := ((hY.key k q hq kx).val hkr).1
            have hfn := findNow_ok hY hq hkr hes (i := 0)
            rcases pos_get (kx := kx) hes with ⟨h1, h2⟩ | ⟨jj, xx, en, h1, h2, h3, h4, h5, h6⟩
            · rw [h1] at hfn
              simp only at hfn
              have e2 : MapD.ent (keyEq Y k) d kx zx = ⟨d.es ++ [(kx, zx, d.clock)], d.clock + 1⟩ := by unfold MapD.ent; rw [h1]
              have e3 : MapD.entV (keyEq Y k) d kx zx = (zx, d.clock) := by unfold MapD.entV; rw [h2]
              rw [e2, e3] at e
              rw [e3] at hav
              have hvr : Rel Y F ρ av z := by rw [hz2]; exact (first_pack hY hrow rfl hsz hz1 hav).mono (.refl F) (fun _ _ h => by simp at h)
              refine put (es' := es.push { key := a.eval ix, val := z, born := d.clock }) (u := .tuple #[z, goInt d.clock]) hj hp ho1 hmp hok ?_ ?_ (.inl ?_) e
              · rw [Array.toList_push]
                exact EntsRel.append ⟨rfl, hkr, _, hz1, hz2⟩ hes
              · exact .tup (vs := [z, goInt d.clock]) rfl (Rels.cons hvr (Rels.cons .v Rels.nil)).2
              · unfold execOp; rw [hop]
                simp only [hev, Pl.val_mp hmp]
                unfold Instr.mapEntry
                simp only [Sem.run_bind, run_underlying hmt, Result.andThen_ok, MapKept.run_getObj_map hb, Sem.run_pure, MapKept.run_checkKey hkd hkey _ 9999, MapKept.run_findKey hkd hfn, MapKept.run_setObj_map _ hb, hz]
            · rw [h1] at hfn
              simp only [h3, Nat.zero_add] at hfn
              have e2 : MapD.ent (keyEq Y k) d kx zx = d := by unfold MapD.ent; rw [h1]
              have e3 : MapD.entV (keyEq Y k) d kx zx = xx.2 := by unfold MapD.entV; rw [h6]
              rw [e2, e3] at e
              rw [e3] at hav
              have hk2 := key_same hY hq hkr h4 h5
              have h3' : es[jj]? = some en := by rw [← Array.getElem?_toList]; exact h3
              obtain ⟨us, hu1, hu2⟩ := h4.val
              have hvr : Rel Y F ρ av en.val := by rw [hu2]; exact (first_pack hY hrow rfl hsz hu1 hav).mono (.refl F) (fun _ _ h => by simp at h)
              refine put (es' := es.modify jj fun e => { e with key := a.eval ix }) (u := .tuple #[en.val, goInt en.born]) hj hp ho1 hmp hok ?_ ?_ (.inl ?_) e
              · rw [Array.toList_modify]
                have e5 : d.es = d.es.modify jj id := by
                  apply List.ext_getElem?
                  intro i
                  rw [List.getElem?_modify]
                  split <;> simp
                rw [e5]
                refine hes.modify fun y en2 g1 g2 g3 => ?_
                rw [h2] at g1; cases g1
                rw [h3] at g2; cases g2
                exact ⟨g3.born, by have := g3.key; rw [hk2] at this; exact this, g3.val⟩
              · refine .tup (vs := [en.val, goInt en.born]) rfl (Rels.cons hvr (Rels.cons ?_ Rels.nil)).2
                rw [h4.born]; exact .v
              · unfold execOp; rw [hop]
                simp only [hev, Pl.val_mp hmp]
                unfold Instr.mapEntry
                simp only [Sem.run_bind, run_underlying hmt, Result.andThen_ok, MapKept.run_getObj_map hb, Sem.run_pure, MapKept.run_checkKey hkd hkey _ 9999, MapKept.run_findKey hkd hfn, h3', Option.map_some, Option.getD_some, hk2, MapKept.run_keyThatStays hkey, MapKept.run_setObj_map _ hb]
          · cases e
        · cases e
      · cases e
    · cases e
  · rename_i t x st v hop
    split at e
    · rename_i j q b vv hx hst hv
      split at e
      · rename_i k el d hj
        obtain ⟨hc, e⟩ := bif_do e
        simp only [Bool.and_eq_true] at hc
        obtain ⟨hpk, hok⟩ := hc
        split at e
        · rename_i vx hvx
          obtain ⟨d', hd', e⟩ := bnd_some e
          obtain ⟨p, o1, hp, ho1, hmp, es, rfl, hes⟩ := h.at hj
          have hb := h.blk hp ho1
          have hrv := h.e.eval hv
          have hvr : Rels Y F [] (Y.cells el vx) (a.eval v).cells.toList := by
            unfold keyA at hvx
            split at hvx
            · rename_i cs hcs
              exact (hY.fit el cs vx hvx F ρ _ (AV.cells_rel hcs hrv)).closed hY (hY.free el vx)
            · cases hvx
          have hpack := valPk_ok hpk hrv
          have hrx := h.e.eval hx
          generalize hev : a.eval x = ux at hrx
          cases hrx with
          | @own _ pl hpl =>
          rw [hp] at hpl; cases hpl
          have hes0 := (h.e.eval hst).v_inv
          unfold MapD.sto at hd'
          split at hd'
          · rename_i jj hjj
            cases hd'
            have hfi := stampAt_ok (b := b) hes
            rw [hjj] at hfi
            refine put (es' := es.modify jj fun e => { e with val := a.eval v }) hj hp ho1 hmp hok ?_ (.v (x := undef)) (.inr ⟨rfl, ?_⟩) e
            · rw [Array.toList_modify]
              exact hes.modify fun y en2 g1 g2 g3 => ⟨g3.born, g3.key, _, hvr, hpack.symm⟩
            · have hfi2 : es.findIdx? (fun en => (en.born : Int) == b) = some jj := by rw [show es = es.toList.toArray by simp, List.findIdx?_toArray]; exact hfi
              unfold execOp; rw [hop]
              simp only [hev, Pl.val_mp hmp, hes0]
              unfold Instr.entryStore
              simp only [Sem.run_bind, Result.andThen_ok, MapKept.run_getObj_map hb, Sem.run_pure, asInt, asIntOf, hfi2, MapKept.run_setObj_map _ hb]
          · cases hd'
        · cases e
      · cases e
    · cases e
  · rename_i c hop
    split at e
    · rename_i x ix t t2 hcal hargs hts
      split at e
      · rename_i j kv hx hix
        split at e
        · rename_i k el d hj
          obtain ⟨hc, e⟩ := bif_do e
          simp only [Bool.and_eq_true] at hc
          obtain ⟨⟨⟨hel, hone⟩, hfree⟩, hok⟩ := hc
          obtain ⟨hmt, ⟨q, hq, hkd⟩, hrow, hsz⟩ := elemOk_ok hel
          split at e
          · rename_i kx hkx
            obtain ⟨p, o1, hp, ho1, hmp, es, rfl, hes⟩ := h.at hj
            have hb := h.blk hp ho1
            have hkr := keyA_ok hY hq hkx hone hfree (h.e.eval hix)
            have hrx := h.e.eval hx
            generalize hev : a.eval x = ux at hrx
            cases hrx with
            | @own _ pl hpl =>
            rw [hp] at hpl; cases hpl
            have hkey := ((hY.key k q hq kx).val hkr).1
            have hfn := findNow_ok hY hq hkr hes (i := 0)
            have hargs' : c.args.map a.eval = #[.map (some p.blk), a.eval ix] := by
              rw [← Array.toList_inj, Array.toList_map, hargs]; simp [hev, Pl.val_mp hmp]
            have hts' : c.argTypes = #[t, t2] := by rw [← Array.toList_inj, hts]
            rcases pos_get (kx := kx) hes with ⟨h1, h2⟩ | ⟨jj, xx, en, h1, h2, h3, h4, h5, h6⟩
            · rw [h1] at hfn
              simp only at hfn
              have e2 : MapD.del (keyEq Y k) d kx = d := by unfold MapD.del; rw [h1]
              rw [e2] at e
              refine put (es' := es) (u := .tuple #[]) hj hp ho1 hmp hok hes (.tup (vs := []) rfl (Rels.nil).2) (.inl ?_) e
              unfold execOp; rw [hop]
              simp only [hcal, hargs', hts', resolve, invoke, Deferred.ofValue]
              show ((do pure (Next.value (← Builtin.delete_ #[t, t2] o.type #[.map (some p.blk), a.eval ix])) : Sem Next)).run P w = _
              unfold Builtin.delete_
              simp [Sem.run_bind, run_underlying hmt, Result.andThen_ok, MapKept.run_getObj_map hb, Sem.run_pure, MapKept.run_checkKey hkd hkey _ 9999, MapKept.run_findKey hkd hfn, MapKept.run_setObj_map _ hb]
            · rw [h1] at hfn
              simp only [h3, Nat.zero_add] at hfn
              have e2 : MapD.del (keyEq Y k) d kx = ⟨d.es.eraseIdx jj, d.clock⟩ := by unfold MapD.del; rw [h1]
              rw [e2] at e
              have hlt : jj < es.size := by rw [← Array.length_toList]; exact (List.getElem?_eq_some_iff.1 h3).1
              refine put (es' := es.eraseIdxIfInBounds jj) (u := .tuple #[]) hj hp ho1 hmp hok ?_ (.tup (vs := []) rfl (Rels.nil).2) (.inl ?_) e
              · unfold Array.eraseIdxIfInBounds
                rw [dif_pos hlt, Array.toList_eraseIdx]
                exact hes.erase
              · unfold execOp; rw [hop]
                simp only [hcal, hargs', hts', resolve, invoke, Deferred.ofValue]
                show ((do pure (Next.value (← Builtin.delete_ #[t, t2] o.type #[.map (some p.blk), a.eval ix])) : Sem Next)).run P w = _
                unfold Builtin.delete_
                simp [Sem.run_bind, run_underlying hmt, Result.andThen_ok, MapKept.run_getObj_map hb, Sem.run_pure, MapKept.run_checkKey hkd hkey _ 9999, MapKept.run_findKey hkd hfn, MapKept.run_setObj_map _ hb]
          · cases e
        · cases e
      · cases e
    · cases e
  · rename_i t x y hop
    split at e
    · rename_i kl n kc n2 hx hy
      split at e
      · rename_i el hel
        split at e
        · rename_i zx i hzx hi
          obtain ⟨hc, e⟩ := bif_do e
          simp only [Bool.and_eq_true] at hc
          obtain ⟨⟨hso, hsz⟩, hbt⟩ := hc
          have hsz := sizeIs_ok hsz
          have hbt := Nat.le_of_ble_eq_true hbt
          obtain ⟨c, hcn, e⟩ := bnd_some e
          have e1 := (h.e.eval hx).v_inv
          have e2 := (h.e.eval hy).v_inv
          have hn : n = n2 := sameOp_ok hso a e1 e2
          subst hn
          unfold roomI at hcn
          split at hcn
          · rename_i hr
            cases hcn
            have hisz : i.size = Y.sz el := by
              unfold sizeB at hsz; rw [hi] at hsz; exact Option.some.inj hsz
            obtain ⟨z, hz, hzcl⟩ : ∃ z, i.zero = some z ∧ Rels Y F [] (Y.cells el zx) z.cells.toList := by
              unfold zeroD at hzx
              rw [hi] at hzx
              simp only at hzx
              split at hzx
              · rename_i z hz
                obtain ⟨_, hzx⟩ := bif_do hzx
                exact ⟨z, hz, hY.fit el _ _ hzx F [] _ (Rels.v z.cells.toList)⟩
              · cases hzx
            have hzl : z.cells.size = Y.sz el := by rw [← Array.length_toList, hzcl.1, hY.len]
            have hmk := run_make (P := P) w t el i z (elemB_under hel) hi hz kl kc n n hr.1 (Int.le_refl _) (by
              have h1 : (i.bytes : Int) * n ≤ 256 * 274877906944 := Int.mul_le_mul (by omega) hr.2 hr.1 (by omega)
              omega) (by omega)
            have hrow : rowIs F (kR hY el) (madeCells z.cells (n.toNat * i.size)).toList (List.replicate n.toNat zx) := by
              intro j y hj
              have hjn : j < n.toNat := by
                have := (List.getElem?_eq_some_iff.1 hj).1
                simpa using this
              have hy : y = zx := by
                have := (List.getElem?_eq_some_iff.1 hj).2
                simpa using this.symm
              subst hy
              refine ⟨z.cells.toList, hzcl, fun q v hq => ?_⟩
              have hql : q < Y.sz el := by have := (List.getElem?_eq_some_iff.1 hq).1; simpa [hzl] using this
              have hin : j * Y.sz el + q < n.toNat * i.size := by
                have : (j + 1) * Y.sz el ≤ n.toNat * Y.sz el := Nat.mul_le_mul_right _ hjn
                rw [Nat.succ_mul] at this
                rw [hisz]; omega
              show (madeCells z.cells (n.toNat * i.size)).toList[j * Y.sz el + q]? = some v
              rw [Array.getElem?_toList]
              simp only [madeCells, Array.getElem?_map]
              rw [Array.getElem?_eq_getElem (by simpa using hin)]
              simp only [Array.getElem_range, Option.map_some]
              have hmod : (j * Y.sz el + q) % z.cells.size = q := by
                rw [hzl, Nat.mul_comm, Nat.mul_add_mod, Nat.mod_eq_of_lt hql]
              rw [hmod]
              have hqv : z.cells[q]? = some v := by rw [← Array.getElem?_toList]; exact hq
              simp only [getElem!_def, hqv]
            have h1 := h.alloc (x := .arr el (List.replicate n.toNat zx)) (p := ⟨w.heap.size, some ⟨w.heap.size, 0, none⟩, n.toNat, n.toNat, false⟩) (ob := .cells (madeCells z.cells (n.toNat * i.size)) el (0, 0)) rfl
              ⟨rfl, by simp, .inr ⟨_, rfl, rfl, by simp, by show n.toNat ≤ maxLen; rw [maxLen_eq]; have := hr.2; omega, by rw [size_madeCells, hisz], hrow⟩⟩
            refine fin_ok (s := s) h1 (Tr.grow ok (.refl F)) ?_ (.own (pl := ⟨w.heap.size, some ⟨w.heap.size, 0, none⟩, n.toNat, n.toNat, false⟩) (by rw [h.len]; simp)) e hg
            unfold execOp; rw [hop]
            simp only [e1, e2, Sem.run_bind, hmk, Result.andThen_ok, Sem.run_pure, Pl.val, cond_false]
          · cases hcn
        · cases e
      · cases e
    · cases e
  · rename_i t x hop
    split at e
    · rename_i q hx
      obtain ⟨ht, e⟩ := bif_do e
      have e1 := (h.e.eval hx).v_inv
      have h1 := h.alloc (x := .it q.data.toList 0) (p := ⟨w.heap.size, none, 0, 0, false⟩) (ob := .stringIter q 0) rfl rfl
      refine fin_ok (s := s) h1 (Tr.grow ok (.refl F)) ?_ (.ptr (pl := ⟨w.heap.size, none, 0, 0, false⟩) (by rw [h.len]; simp)) e hg
      unfold execOp; rw [hop]
      simp only [e1]
      unfold Instr.range
      simp only [Sem.run_bind, run_underlying (isStrB_ok ht), Result.andThen_ok, Sem.run_pure]
      rfl
    · cases e
  · rename_i x hop
    split at e
    · rename_i j hx
      split at e
      · rename_i q pos hj
        obtain ⟨hok, e⟩ := bif_do e
        obtain ⟨p, o1, hp, ho1, hm⟩ := h.at hj
        have hm : o1 = some (.stringIter ⟨⟨q⟩⟩ pos) := hm
        subst hm
        have hb := h.blk hp ho1
        have hrx := h.e.eval hx
        generalize hev : a.eval x = ux at hrx
        cases hrx with
        | @ptr _ _ pl hpl =>
        rw [hp] at hpl; cases hpl
        have hget : (getObj p.blk).run P w = .ok (.stringIter ⟨⟨q⟩⟩ pos) w := by simp [getObj, Sem.run, hb]
        have hsz : (⟨⟨q⟩⟩ : ByteArray).size = q.length := rfl
        split at e
        · rename_i hlt
          have hlt : pos < q.length := Nat.le_of_ble_eq_true hlt
          obtain ⟨q1, q2, q3⟩ := set_heap (.stringIter ⟨⟨q⟩⟩ (pos + (Utf8.decode ⟨⟨q⟩⟩ pos).2)) hb
          obtain ⟨h2, t2⟩ := h.setObj (w' := { w with heap := w.heap.setIfInBounds p.blk (.stringIter ⟨⟨q⟩⟩ (pos + (Utf8.decode ⟨⟨q⟩⟩ pos).2)) }) (x' := .it q (pos + (Utf8.decode ⟨⟨q⟩⟩ pos).2)) hok hj hp ho1 rfl rfl rfl rfl rfl q1 q2 q3
          refine fin_ok (s := s) (u := .tuple #[.bool true, goInt pos, .int .i32 ((Utf8.decode ⟨⟨q⟩⟩ pos).1 : Int)]) h2 t2 ?_ (.tup (vs := [.bool true, goInt pos, .int .i32 ((Utf8.decode ⟨⟨q⟩⟩ pos).1 : Int)]) rfl (Rels.cons .v (Rels.cons .v (Rels.cons .v Rels.nil))).2) e hg
          unfold execOp; rw [hop]
          have hset : (setObj p.blk (.stringIter ⟨⟨q⟩⟩ (pos + (Utf8.decode ⟨⟨q⟩⟩ pos).2))).run P w = .ok () { w with heap := w.heap.setIfInBounds p.blk (.stringIter ⟨⟨q⟩⟩ (pos + (Utf8.decode ⟨⟨q⟩⟩ pos).2)) } := by simp [setObj, Sem.run, hb]
          simp only [hev]
          unfold Instr.next
          simp only [Sem.run_bind, hget, Result.andThen_ok, hsz, if_pos hlt, Sem.run_pure, hset]
        · rename_i hlt
          have hlt : ¬ pos < q.length := fun h => hlt (Nat.ble_eq_true_of_le h)
          refine fin_ok (s := s) (u := .tuple #[.bool false]) h (Tr.refl ok F ρ os s.m) ?_ (.tup (vs := [.bool false]) rfl (Rels.cons .v Rels.nil).2) e hg
          unfold execOp; rw [hop]
          simp only [hev]
          unfold Instr.next
          simp only [Sem.run_bind, hget, Result.andThen_ok, hsz, if_neg hlt, Sem.run_pure]
      · cases e
    · cases e
  · cases e
end
end Go.Dn

