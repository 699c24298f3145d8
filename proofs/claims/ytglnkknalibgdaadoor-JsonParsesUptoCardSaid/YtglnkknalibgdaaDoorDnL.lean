/- Shapes: what a state looks like at a place where several ways meet, and the data that fills it. For any program. -/
import Derived.Test.YtglnkknalibgdaaDoorDnK
set_option linter.unusedVariables false
set_option linter.unusedSimpArgs false
set_option linter.unnecessarySimpa false
namespace Go.Dn
open Go.Gw Go.RowKit
set_option linter.unusedSectionVars false
variable [Dfr]
set_option linter.unusedSimpArgs false

section
variable (Y : Tys)
mutual
def ParP : Pat → Type → Type
  | .junk, r => r
  | .nilp, r => r
  | .nils, r => r
  | .int _, r => Int × r
  | .bool, r => Bool × r
  | .str, r => Str × r
  | .sl e, r => List (Y.T e) × r
  | .err, r => GErr × r
  | .ptr _ _, r => r
  | .own _, r => r
  | .st e, r => Y.T e × r
  | .elst e, r => Y.T e × r
  | .fn _ l, r => ParL l r
  | .agg l, r => ParL l r
  | .el l, r => ParL l r
  | .tup l, r => ParL l r
def ParL : List Pat → Type → Type
  | [], r => r
  | p :: l, r => ParP p (ParL l r)
end
def getInt (k : IntKind) : AV Y.T → Option Int
  | .v (.int k' n) => if k' = k then some n else none
  | _ => none
def getBool : AV Y.T → Option Bool
  | .v (.bool b) => some b
  | _ => none
def getStr : AV Y.T → Option Str
  | .v (.string q) => some q.data.toList
  | _ => none
def getSl (e : Nat) : AV Y.T → Option (List (Y.T e))
  | .sl e' xs => if h : e' = e then some (h ▸ xs) else none
  | .v (.slice none 0 0) => some []
  | _ => none
def getErr : AV Y.T → Option GErr
  | .err e => some e
  | .v .nilIface => some .nil
  | _ => none
def isPtr (k off : Nat) : AV Y.T → Bool
  | .ptr k' off' => Nat.beq k' k && Nat.beq off' off
  | _ => false
def isNilp : AV Y.T → Bool
  | .v (.pointer none) => true
  | _ => false
def isNils : AV Y.T → Bool
  | .v (.slice none 0 0) => true
  | _ => false
def isOwn (k : Nat) : AV Y.T → Bool
  | .own k' => Nat.beq k' k
  | _ => false
def getAgg : AV Y.T → Option (List (AV Y.T))
  | .agg l => some l
  | .v (.agg cs) => some (cs.toList.map .v)
  | _ => none
def getEl : AV Y.T → Option (List (AV Y.T))
  | .el l => some l
  | _ => none
def getTup : AV Y.T → Option (List (AV Y.T))
  | .tup l => some l
  | .v (.tuple cs) => some (cs.toList.map .v)
  | _ => none
def getFn (f : Nat) : AV Y.T → Option (List (AV Y.T))
  | .fn g l => bif Nat.beq g f then some l else none
  | _ => none
mutual
def getP : (p : Pat) → (r : Type) → AV Y.T → r → Option (ParP Y p r)
  | .junk, _, _, y => some y
  | .nilp, _, a, y => bif isNilp Y a then some y else none
  | .nils, _, a, y => bif isNils Y a then some y else none
  | .int k, _, a, y => match getInt Y k a with | some n => some (n, y) | none => none
  | .bool, _, a, y => match getBool Y a with | some n => some (n, y) | none => none
  | .str, _, a, y => match getStr Y a with | some n => some (n, y) | none => none
  | .sl e, _, a, y => match getSl Y e a with | some n => some (n, y) | none => none
  | .err, _, a, y => match getErr Y a with | some n => some (n, y) | none => none
  | .ptr k off, _, a, y => bif isPtr Y k off a then some y else none
  | .own k, _, a, y => bif isOwn Y k a then some y else none
  | .st e, _, a, y => match getAgg Y a with | some l => (match Y.close e l with | some x => some (x, y) | none => none) | none => none
  | .elst e, _, a, y => match getEl Y a with | some l => (match Y.close e l with | some x => some (x, y) | none => none) | none => none
  | .fn f l, r, a, y => match getFn Y f a with | some c => getL l r c y | none => none
  | .agg l, r, a, y => match getAgg Y a with | some c => getL l r c y | none => none
  | .el l, r, a, y => match getEl Y a with | some c => getL l r c y | none => none
  | .tup l, r, a, y => match getTup Y a with | some c => getL l r c y | none => none
def getL : (l : List Pat) → (r : Type) → List (AV Y.T) → r → Option (ParL Y l r)
  | [], _, [], y => some y
  | p :: l, r, a :: as, y => match getL l r as y with | some z => getP p (ParL Y l r) a z | none => none
  | [], _, _ :: _, _ => none
  | _ :: _, _, [], _ => none
end
mutual
def putP : (p : Pat) → (r : Type) → ParP Y p r → AV Y.T × r
  | .junk, _, z => (.junk, z)
  | .nilp, _, z => (.v (.pointer none), z)
  | .nils, _, z => (.v (.slice none 0 0), z)
  | .int k, _, z => (.v (.int k z.1), z.2)
  | .bool, _, z => (.v (.bool z.1), z.2)
  | .str, _, z => (.v (.string ⟨⟨z.1⟩⟩), z.2)
  | .sl e, _, z => (.sl e z.1, z.2)
  | .err, _, z => (.err z.1, z.2)
  | .ptr k off, _, z => (.ptr k off, z)
  | .own k, _, z => (.own k, z)
  | .st e, _, z => (.agg (Y.cells e z.1), z.2)
  | .elst e, _, z => (.el (Y.cells e z.1), z.2)
  | .fn f l, r, z => (.fn f (putL l r z).1, (putL l r z).2)
  | .agg l, r, z => (.agg (putL l r z).1, (putL l r z).2)
  | .el l, r, z => (.el (putL l r z).1, (putL l r z).2)
  | .tup l, r, z => (.tup (putL l r z).1, (putL l r z).2)
def putL : (l : List Pat) → (r : Type) → ParL Y l r → List (AV Y.T) × r
  | [], _, z => ([], z)
  | p :: l, r, z => ((putP p (ParL Y l r) z).1 :: (putL l r (putP p (ParL Y l r) z).2).1, (putL l r (putP p (ParL Y l r) z).2).2)
end
def ParM : MPat → Type → Type
  | .gone, r => r
  | .cells _ l, r => ParL Y l r
  | .whole _ e, r => Y.T e × r
  | .arr e, r => List (Y.T e) × r
  | .mp k e, r => MapD (Y.T k) (Y.T e) × r
  | .it, r => Str × Nat × r
def ParMs : List MPat → Type → Type
  | [], r => r
  | p :: l, r => ParM Y p (ParMs l r)
def getCells (ty : Nat) : Mem Y.T → Option (List (AV Y.T))
  | .cells ty' l => bif Nat.beq ty' ty then some l else none
  | _ => none
def getArr (e : Nat) : Mem Y.T → Option (List (Y.T e))
  | .arr e' xs => if h : e' = e then some (h ▸ xs) else none
  | _ => none
def getMap (k e : Nat) : Mem Y.T → Option (MapD (Y.T k) (Y.T e))
  | .mp k' e' x => if h : k' = k ∧ e' = e then some (h.1 ▸ h.2 ▸ x) else none
  | _ => none
def getM : (p : MPat) → (r : Type) → Mem Y.T → r → Option (ParM Y p r)
  | .gone, _, _, y => some y
  | .cells ty l, r, x, y => match getCells Y ty x with | some c => getL Y l r c y | none => none
  | .whole ty e, _, x, y => match getCells Y ty x with | some c => (match Y.close e c with | some d => some (d, y) | none => none) | none => none
  | .arr e, _, x, y => match getArr Y e x with | some d => some (d, y) | none => none
  | .mp k e, _, x, y => match getMap Y k e x with | some d => some (d, y) | none => none
  | .it, _, x, y => match x with | .it s pos => some (s, pos, y) | _ => none
def getMs : (l : List MPat) → (r : Type) → List (Mem Y.T) → r → Option (ParMs Y l r)
  | [], _, [], y => some y
  | p :: l, r, a :: as, y => match getMs l r as y with | some z => getM Y p (ParMs Y l r) a z | none => none
  | [], _, _ :: _, _ => none
  | _ :: _, _, [], _ => none
def putM : (p : MPat) → (r : Type) → ParM Y p r → Mem Y.T × r
  | .gone, _, z => (.gone, z)
  | .cells ty l, r, z => (.cells ty (putL Y l r z).1, (putL Y l r z).2)
  | .whole ty e, _, z => (.cells ty (Y.cells e z.1), z.2)
  | .arr e, _, z => (.arr e z.1, z.2)
  | .mp k e, _, z => (.mp k e z.1, z.2)
  | .it, _, z => (.it z.1 z.2.1, z.2.2)
def putMs : (l : List MPat) → (r : Type) → ParMs Y l r → List (Mem Y.T) × r
  | [], _, z => ([], z)
  | p :: l, r, z => ((putM Y p (ParMs Y l r) z).1 :: (putMs l r (putM Y p (ParMs Y l r) z).2).1, (putMs l r (putM Y p (ParMs Y l r) z).2).2)
def pats : List (Nat × Pat) → List Pat
  | [] => []
  | (_, p) :: r => p :: pats r
def keys : List (Nat × Pat) → List Nat
  | [] => []
  | (t, _) :: r => t :: keys r
def zipE : List Nat → List (AV Y.T) → AEnv Y.T
  | t :: r, a :: l => (t, a) :: zipE r l
  | _, _ => []
def looks (l : AEnv Y.T) : List Nat → Option (List (AV Y.T))
  | [] => some []
  | t :: r => match lookA l t, looks l r with | some a, some as => some (a :: as) | _, _ => none
def ParS (σ : Shape) : Type := ParL Y (pats σ.l) (ParMs Y σ.m Unit)
def matchAt (σ : Shape) (s : Sy Y.T) : Option (ParL Y (pats σ.l) (ParMs Y σ.m Unit)) := match looks Y s.l (keys σ.l), getMs Y σ.m Unit s.m () with
  | some as, some y => getL Y (pats σ.l) (ParMs Y σ.m Unit) as y
  | _, _ => none
def fillS (σ : Shape) (z : ParS Y σ) : Sy Y.T := ⟨zipE Y (keys σ.l) (putL Y (pats σ.l) (ParMs Y σ.m Unit) z).1, (putMs Y σ.m Unit (putL Y (pats σ.l) (ParMs Y σ.m Unit) z).2).1⟩
end

section
variable {Y : Tys} {hY : TysOk Y} {F : Heap} {ρ : List Pl}

theorem getSl_ok {e : Nat} {a : AV Y.T} {xs : List (Y.T e)} {u : Value} (h : getSl Y e a = some xs) (r : Rel Y F ρ a u) : Rel Y F ρ (.sl e xs) u := by
  unfold getSl at h
  split at h
  · split at h
    · rename_i he; subst he; cases h; exact r
    · cases h
  · cases h
    rw [r.v_inv]
    exact .sl 0 0 (fun _ => []) (by simp) (fun i x hx => by simp at hx) (fun i x hx => by simp at hx) (fun i x j a u hx => by simp at hx)
  · cases h
theorem getAgg_ok {a : AV Y.T} {l : List (AV Y.T)} {u : Value} (h : getAgg Y a = some l) (r : Rel Y F ρ a u) : ∃ vs, u = .agg vs.toArray ∧ Rels Y F ρ l vs := by
  unfold getAgg at h
  split at h
  · cases h
    cases r with
    | agg h1 h2 => exact ⟨_, rfl, h1, h2⟩
  · rename_i cs
    cases h
    exact ⟨cs.toList, by rw [r.v_inv], Rels.v _⟩
  · cases h
mutual
theorem getP_ok (hY : TysOk Y) : ∀ (p : Pat) (r : Type) {a : AV Y.T} {y : r} {z : ParP Y p r} {u : Value}, getP Y p r a y = some z → Rel Y F ρ a u → (putP Y p r z).2 = y ∧ Rel Y F ρ (putP Y p r z).1 u
  | .junk, r, a, y, z, u, h, _ => by simp only [getP] at h; cases h; exact ⟨rfl, .junk⟩
  | .nilp, r, a, y, z, u, h, hr => by
    simp only [getP] at h
    obtain ⟨hb, h⟩ := bif_some h
    cases h
    unfold isNilp at hb
    split at hb
    · exact ⟨rfl, hr⟩
    · cases hb
  | .nils, r, a, y, z, u, h, hr => by
    simp only [getP] at h
    obtain ⟨hb, h⟩ := bif_some h
    cases h
    unfold isNils at hb
    split at hb
    · exact ⟨rfl, hr⟩
    · cases hb
  | .int k, r, a, y, z, u, h, hr => by
    simp only [getP] at h
    split at h
    · rename_i n hn
      cases h
      refine ⟨rfl, ?_⟩
      unfold getInt at hn
      split at hn
      · split at hn
        · rename_i hk; subst hk; cases hn; exact hr
        · cases hn
      · cases hn
    · cases h
  | .bool, r, a, y, z, u, h, hr => by
    simp only [getP] at h
    split at h
    · rename_i n hn
      cases h
      refine ⟨rfl, ?_⟩
      unfold getBool at hn
      split at hn
      · cases hn; exact hr
      · cases hn
    · cases h
  | .str, r, a, y, z, u, h, hr => by
    simp only [getP] at h
    split at h
    · rename_i n hn
      cases h
      refine ⟨rfl, ?_⟩
      unfold getStr at hn
      split at hn
      · cases hn; exact hr
      · cases hn
    · cases h
  | .sl e, r, a, y, z, u, h, hr => by
    simp only [getP] at h
    split at h
    · rename_i n hn
      cases h
      exact ⟨rfl, getSl_ok hn hr⟩
    · cases h
  | .err, r, a, y, z, u, h, hr => by
    simp only [getP] at h
    split at h
    · rename_i n hn
      cases h
      refine ⟨rfl, ?_⟩
      unfold getErr at hn
      split at hn
      · cases hn; exact hr
      · cases hn
        rw [hr.v_inv]
        exact .err (q := errY)
      · cases hn
    · cases h
  | .ptr k off, r, a, y, z, u, h, hr => by
    simp only [getP] at h
    obtain ⟨hb, h⟩ := bif_some h
    cases h
    refine ⟨rfl, ?_⟩
    unfold isPtr at hb
    split at hb
    · simp only [Bool.and_eq_true] at hb
      rw [Nat.eq_of_beq_eq_true hb.1, Nat.eq_of_beq_eq_true hb.2] at hr
      exact hr
    · cases hb
  | .own k, r, a, y, z, u, h, hr => by
    simp only [getP] at h
    obtain ⟨hb, h⟩ := bif_some h
    cases h
    refine ⟨rfl, ?_⟩
    unfold isOwn at hb
    split at hb
    · rw [Nat.eq_of_beq_eq_true hb] at hr
      exact hr
    · cases hb
  | .st e, r, a, y, z, u, h, hr => by
    simp only [getP] at h
    split at h
    · rename_i l hl
      split at h
      · rename_i x hx
        cases h
        obtain ⟨vs, rfl, hv⟩ := getAgg_ok hl hr
        have := hY.fit e l x hx F ρ vs hv
        exact ⟨rfl, .agg this.1 this.2⟩
      · cases h
    · cases h
  | .elst e, r, a, y, z, u, h, hr => by
    simp only [getP] at h
    split at h
    · rename_i l hl
      split at h
      · rename_i x hx
        cases h
        unfold getEl at hl
        split at hl
        · cases hl
          cases hr with
          | el vs h1 hc h2 =>
            have := hY.fit e _ x hx F ρ vs ⟨h1, h2⟩
            exact ⟨rfl, .el vs this.1 hc this.2⟩
        · cases hl
      · cases h
    · cases h
  | .fn f l, r, a, y, z, u, h, hr => by
    simp only [getP] at h
    split at h
    · rename_i c hc
      unfold getFn at hc
      split at hc
      · obtain ⟨hb, hc⟩ := bif_some hc
        cases hc
        rw [Nat.eq_of_beq_eq_true hb] at hr
        cases hr with
        | fn h1 h2 =>
          obtain ⟨q1, q2⟩ := getL_ok hY l r h ⟨h1, h2⟩
          exact ⟨q1, .fn q2.1 q2.2⟩
      · cases hc
    · cases h
  | .agg l, r, a, y, z, u, h, hr => by
    simp only [getP] at h
    split at h
    · rename_i c hc
      obtain ⟨vs, rfl, hv⟩ := getAgg_ok hc hr
      obtain ⟨q1, q2⟩ := getL_ok hY l r h hv
      exact ⟨q1, .agg q2.1 q2.2⟩
    · cases h
  | .el l, r, a, y, z, u, h, hr => by
    simp only [getP] at h
    split at h
    · rename_i c hc
      unfold getEl at hc
      split at hc
      · cases hc
        cases hr with
        | el vs h1 hcc h2 =>
          obtain ⟨q1, q2⟩ := getL_ok hY l r h ⟨h1, h2⟩
          exact ⟨q1, .el vs q2.1 hcc q2.2⟩
      · cases hc
    · cases h
  | .tup l, r, a, y, z, u, h, hr => by
    simp only [getP] at h
    split at h
    · rename_i c hc
      unfold getTup at hc
      split at hc
      · cases hc
        cases hr with
        | tup h1 h2 =>
          obtain ⟨q1, q2⟩ := getL_ok hY l r h ⟨h1, h2⟩
          exact ⟨q1, .tup q2.1 q2.2⟩
      · rename_i cs
        cases hc
        obtain ⟨q1, q2⟩ := getL_ok hY l r h (Rels.v cs.toList)
        rw [hr.v_inv]
        exact ⟨q1, .tup q2.1 q2.2⟩
      · cases hc
    · cases h
theorem getL_ok (hY : TysOk Y) : ∀ (l : List Pat) (r : Type) {as : List (AV Y.T)} {y : r} {z : ParL Y l r} {us : List Value}, getL Y l r as y = some z → Rels Y F ρ as us → (putL Y l r z).2 = y ∧ Rels Y F ρ (putL Y l r z).1 us
  | [], r, [], y, z, us, h, hr => by simp only [getL] at h; cases h; exact ⟨rfl, hr⟩
  | p :: l, r, a :: as, y, z, us, h, hr => by
    simp only [getL] at h
    split at h
    · rename_i z' hz
      obtain ⟨u, us', rfl, h1, h2⟩ := hr.inv
      obtain ⟨q1, q2⟩ := getP_ok hY p (ParL Y l r) h h1
      obtain ⟨q3, q4⟩ := getL_ok hY l r hz h2
      simp only [putL]
      rw [q1]
      exact ⟨q3, Rels.cons q2 q4⟩
    · cases h
  | [], r, _ :: _, y, z, us, h, _ => by simp [getL] at h
  | _ :: _, r, [], y, z, us, h, _ => by simp [getL] at h
end
theorem getCells_ok {ty : Nat} {x : Mem Y.T} {c : List (AV Y.T)} (h : getCells Y ty x = some c) : x = .cells ty c := by
  unfold getCells at h
  split at h
  · obtain ⟨hb, h⟩ := bif_some h
    cases h
    rw [Nat.eq_of_beq_eq_true hb]
  · cases h
mutual
theorem getP_rest : ∀ (p : Pat) (r : Type) {a : AV Y.T} {y : r} {z : ParP Y p r}, getP Y p r a y = some z → (putP Y p r z).2 = y
  | .junk, r, a, y, z, h => by simp only [getP] at h; cases h; rfl
  | .nilp, r, a, y, z, h => by
    simp only [getP] at h
    obtain ⟨hb, h⟩ := bif_some h
    cases h; rfl
  | .nils, r, a, y, z, h => by
    simp only [getP] at h
    obtain ⟨hb, h⟩ := bif_some h
    cases h; rfl
  | .int k, r, a, y, z, h => by
    simp only [getP] at h
    split at h
    · cases h; rfl
    · cases h
  | .bool, r, a, y, z, h => by
    simp only [getP] at h
    split at h
    · cases h; rfl
    · cases h
  | .str, r, a, y, z, h => by
    simp only [getP] at h
    split at h
    · cases h; rfl
    · cases h
  | .sl e, r, a, y, z, h => by
    simp only [getP] at h
    split at h
    · cases h; rfl
    · cases h
  | .err, r, a, y, z, h => by
    simp only [getP] at h
    split at h
    · cases h; rfl
    · cases h
  | .ptr k off, r, a, y, z, h => by
    simp only [getP] at h
    obtain ⟨hb, h⟩ := bif_some h
    cases h; rfl
  | .own k, r, a, y, z, h => by
    simp only [getP] at h
    obtain ⟨hb, h⟩ := bif_some h
    cases h; rfl
  | .st e, r, a, y, z, h => by
    simp only [getP] at h
    split at h
    · split at h
      · cases h; rfl
      · cases h
    · cases h
  | .elst e, r, a, y, z, h => by
    simp only [getP] at h
    split at h
    · split at h
      · cases h; rfl
      · cases h
    · cases h
  | .fn f l, r, a, y, z, h => by
    simp only [getP] at h
    split at h
    · exact getL_rest l r h
    · cases h
  | .agg l, r, a, y, z, h => by
    simp only [getP] at h
    split at h
    · exact getL_rest l r h
    · cases h
  | .el l, r, a, y, z, h => by
    simp only [getP] at h
    split at h
    · exact getL_rest l r h
    · cases h
  | .tup l, r, a, y, z, h => by
    simp only [getP] at h
    split at h
    · exact getL_rest l r h
    · cases h
theorem getL_rest : ∀ (l : List Pat) (r : Type) {as : List (AV Y.T)} {y : r} {z : ParL Y l r}, getL Y l r as y = some z → (putL Y l r z).2 = y
  | [], r, [], y, z, h => by simp only [getL] at h; cases h; rfl
  | p :: l, r, a :: as, y, z, h => by
    simp only [getL] at h
    split at h
    · rename_i z' hz
      simp only [putL]
      rw [getP_rest p (ParL Y l r) h]
      exact getL_rest l r hz
    · cases h
  | [], r, _ :: _, y, z, h => by simp [getL] at h
  | _ :: _, r, [], y, z, h => by simp [getL] at h
end
/-- what is told of one object is told of the other -/
structure Keep (hY : TysOk Y) (x x' : Mem Y.T) : Prop where
  rel : ∀ (F : Heap) (ρ : List Pl) (q : Pl) (o : Option Obj), MemRel hY F ρ x q o → MemRel hY F ρ x' q o
  still : x.still = true → x'.still = true
theorem getM_ok (hY : TysOk Y) (p : MPat) (r : Type) {x : Mem Y.T} {y : r} {z : ParM Y p r} (h : getM Y p r x y = some z) : (putM Y p r z).2 = y ∧ Keep hY x (putM Y p r z).1 := by
  cases p with
  | gone => simp only [getM] at h; cases h; exact ⟨rfl, fun _ _ _ _ _ => trivial, fun _ => rfl⟩
  | cells ty l =>
    simp only [getM] at h
    split at h
    · rename_i c hc
      have hx := getCells_ok hc
      subst hx
      refine ⟨getL_rest l r h, fun F ρ q o ⟨vs, h1, h2⟩ => ⟨vs, (getL_ok hY l r h h1).2, h2⟩, fun _ => rfl⟩
    · cases h
  | whole ty e =>
    simp only [getM] at h
    split at h
    · rename_i c hc
      split at h
      · rename_i d hd
        cases h
        have hx := getCells_ok hc
        subst hx
        exact ⟨rfl, fun F ρ q o ⟨vs, h1, h2⟩ => ⟨vs, hY.fit e c d hd F ρ vs h1, h2⟩, fun _ => rfl⟩
      · cases h
    · cases h
  | arr e =>
    simp only [getM] at h
    split at h
    · rename_i d hd
      cases h
      unfold getArr at hd
      split at hd
      · split at hd
        · rename_i he; subst he; cases hd; exact ⟨rfl, fun _ _ _ _ hr => hr, fun h => h⟩
        · cases hd
      · cases hd
    · cases h
  | mp k e =>
    simp only [getM] at h
    split at h
    · rename_i d hd
      cases h
      unfold getMap at hd
      split at hd
      · split at hd
        · rename_i he; obtain ⟨h1, h2⟩ := he; subst h1; subst h2; cases hd; exact ⟨rfl, fun _ _ _ _ hr => hr, fun h => h⟩
        · cases hd
      · cases hd
    · cases h
  | it =>
    simp only [getM] at h
    split at h
    · cases h; exact ⟨rfl, fun _ _ _ _ hr => hr, fun h => h⟩
    · cases h
theorem getMs_ok (hY : TysOk Y) : ∀ (l : List MPat) (r : Type) {ms : List (Mem Y.T)} {y : r} {z : ParMs Y l r}, getMs Y l r ms y = some z →
    (putMs Y l r z).2 = y ∧ (putMs Y l r z).1.length = ms.length ∧ ∀ (k : Nat) (x' : Mem Y.T), (putMs Y l r z).1[k]? = some x' → ∃ x, ms[k]? = some x ∧ Keep hY x x'
  | [], r, [], y, z, h => by simp only [getMs] at h; cases h; exact ⟨rfl, rfl, fun k x' hk => by simp [putMs] at hk⟩
  | p :: l, r, m :: ms, y, z, h => by
    simp only [getMs] at h
    split at h
    · rename_i z' hz
      obtain ⟨q1, q2, q3⟩ := getMs_ok hY l r hz
      obtain ⟨p1, p2⟩ := getM_ok hY p _ h
      simp only [putMs]
      rw [p1]
      refine ⟨q1, by simp [q2], fun k x' hk => ?_⟩
      cases k with
      | zero => simp at hk; subst hk; exact ⟨m, rfl, p2⟩
      | succ k => simpa using q3 k x' (by simpa using hk)
    · cases h
  | [], r, _ :: _, y, z, h => by simp [getMs] at h
  | _ :: _, r, [], y, z, h => by simp [getMs] at h

theorem looks_ok {l : AEnv Y.T} : ∀ {ks : List Nat} {as : List (AV Y.T)}, looks Y l ks = some as → as.length = ks.length ∧ ∀ (i t : Nat) (x : AV Y.T), ks[i]? = some t → as[i]? = some x → lookA l t = some x
  | [], as, h => by cases h; exact ⟨rfl, fun i t x h => by simp at h⟩
  | k :: ks, as, h => by
    simp only [looks] at h
    split at h
    · rename_i a as' ha has
      cases h
      obtain ⟨h1, h2⟩ := looks_ok has
      refine ⟨by simp [h1], fun i t x hi hx => ?_⟩
      cases i with
      | zero => simp at hi hx; subst hi; subst hx; exact ha
      | succ i => exact h2 i t x (by simpa using hi) (by simpa using hx)
    · cases h
theorem zipE_ok : ∀ {ks : List Nat} {as : List (AV Y.T)} {t : Nat} {x : AV Y.T}, lookA (zipE Y ks as) t = some x → ∃ i : Nat, ks[i]? = some t ∧ as[i]? = some x
  | [], as, t, x, h => by cases as <;> cases h
  | k :: ks, [], t, x, h => by cases h
  | k :: ks, a :: as, t, x, h => by
    simp only [zipE, lookA] at h
    cases hb : Nat.beq k t with
    | true => rw [hb] at h; cases h; exact ⟨0, by rw [Nat.eq_of_beq_eq_true hb]; rfl, rfl⟩
    | false =>
      rw [hb] at h
      obtain ⟨i, h1, h2⟩ := zipE_ok h
      exact ⟨i + 1, by simpa using h1, by simpa using h2⟩

variable {N : Nat} {w0 : World} {F0 : Heap} {D : Own} {H : List (Option Nat)} {w : World} {os : List (Option Obj)} {s : Sy Y.T} {a : Act}
theorem matchAt_ok {σ : Shape} {z : ParS Y σ} (h2 : Cy hY N w0 F0 D H w F ρ os s a) (e : matchAt Y σ s = some z) : Cy hY N w0 F0 D H w F ρ os (fillS Y σ z) a := by
  change ParL Y (pats σ.l) (ParMs Y σ.m Unit) at z
  unfold matchAt at e
  split at e
  · rename_i as y has hy
    obtain ⟨l1, l2⟩ := looks_ok has
    have hr : Rels Y F ρ as ((keys σ.l).map fun t => a.tmps.getD t undef) := by
      refine ⟨by simp [l1], fun i x u hx hu => ?_⟩
      rw [List.getElem?_map] at hu
      cases hk : (keys σ.l)[i]? with
      | none => rw [hk] at hu; cases hu
      | some t => rw [hk] at hu; cases hu; exact (h2.e.env t x (l2 i t x hk hx)).2
    obtain ⟨q1, q2⟩ := getL_ok hY (pats σ.l) (ParMs Y σ.m Unit) e hr
    obtain ⟨m1, m2, m3⟩ := getMs_ok hY σ.m Unit hy
    refine ⟨⟨h2.e.size, h2.e.nodef, fun t x hx => ?_⟩, ?_, h2.lon, fun k x p o hk hp ho => ?_, h2.st, fun k b hb => ⟨(h2.fix k b hb).1, fun y hk => ?_⟩, h2.long⟩
    · obtain ⟨i, h3, h4⟩ := zipE_ok hx
      have h5 : i < as.length := by rw [l1]; exact (List.getElem?_eq_some_iff.1 h3).1
      refine ⟨(h2.e.env t _ (l2 i t as[i] h3 (List.getElem?_eq_getElem h5))).1, ?_⟩
      exact q2.2 i x _ h4 (by rw [List.getElem?_map, h3]; rfl)
    · show (putMs Y σ.m Unit (putL Y (pats σ.l) (ParMs Y σ.m Unit) z).2).1.length = ρ.length
      rw [q1, m2]; exact h2.len
    · have hk : (putMs Y σ.m Unit (putL Y (pats σ.l) (ParMs Y σ.m Unit) z).2).1[k]? = some x := hk
      rw [q1] at hk
      obtain ⟨x0, h3, h4⟩ := m3 k x hk
      exact h4.rel F ρ p o (h2.mem k x0 p o h3 hp ho)
    · have hk : (putMs Y σ.m Unit (putL Y (pats σ.l) (ParMs Y σ.m Unit) z).2).1[k]? = some y := hk
      rw [q1] at hk
      obtain ⟨x0, h3, h4⟩ := m3 k _ hk
      exact h4.still ((h2.fix k b hb).2 x0 h3)
  · cases e
end
end Go.Dn

