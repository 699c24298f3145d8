/- A region's plain operations, reckoned at once, guarded ones told under their condition. For any program. -/
import Derived.Test.YtglnkknalibgdaaDoorGwD
set_option linter.unusedVariables false
set_option linter.unusedSimpArgs false
set_option linter.unnecessarySimpa false
namespace Go.Gw
open Go.RowKit
set_option linter.unusedSimpArgs false

abbrev Gs := List (Nat × Bool)
inductive LV where
  | s (x : SV)
  | c (gs : Gs) (q : Bool) (x : SV)
abbrev Lc := List (Nat × LV)

def gslot (ops : Array Oper) (j : Nat) : Option Nat := match ops[j]? with
  | some o => o.dst
  | none => none
def lookL : Lc → Nat → Option LV
  | [], _ => none
  | (k, v) :: r, t => bif Nat.beq k t then some v else lookL r t
def lk (lc : Lc) (l : Env) (t : Nat) : Option LV := match lookL lc t with
  | some v => some v
  | none => match look l t with | some s => some (.s s) | none => none
def eqG : Gs → Gs → Bool
  | [], [] => true
  | (i, b) :: r, (j, c) :: s => Nat.beq i j && (b == c) && eqG r s
  | _, _ => false
def suff (g : Gs) : Gs → Bool
  | [] => eqG g []
  | p :: r => eqG g (p :: r) || suff g r
def rid (t : Nat) : Env → Env
  | [] => []
  | (k, s) :: r => bif Nat.beq k t then rid t r else (k, s) :: rid t r
def unw : Lc → Env → Gs → Env
  | [], l, _ => l
  | (t, .s x) :: r, l, gs => (t, x) :: unw r l gs
  | (t, .c g _ x) :: r, l, gs => bif suff g gs then (t, x) :: unw r l gs else rid t (unw r l gs)

theorem eqG_eq : ∀ {g h : Gs}, eqG g h = true → g = h
  | [], [], _ => rfl
  | (i, b) :: r, (j, c) :: s, e => by
    simp only [eqG, Bool.and_eq_true] at e
    obtain ⟨⟨e1, e2⟩, e3⟩ := e
    have := Nat.eq_of_beq_eq_true e1
    have h2 : b = c := by simpa using e2
    rw [this, h2, eqG_eq e3]
  | [], _ :: _, e => by cases e
  | _ :: _, [], e => by cases e
theorem suff_mem {g : Gs} : ∀ {h : Gs}, suff g h = true → ∀ p ∈ g, p ∈ h
  | [], e, p, hp => by rw [eqG_eq e] at hp; exact hp
  | x :: r, e, p, hp => by
    simp only [suff, Bool.or_eq_true] at e
    rcases e with e | e
    · rw [eqG_eq e] at hp; exact hp
    · exact List.mem_cons_of_mem _ (suff_mem e p hp)
theorem look_rid {t : Nat} : ∀ {l : Env} {u : Nat} {s : SV}, look (rid t l) u = some s → u ≠ t ∧ look l u = some s
  | [], _, _, h => by cases h
  | (k, x) :: r, u, s, h => by
    simp only [rid] at h
    cases hk : Nat.beq k t with
    | true =>
      rw [hk] at h
      obtain ⟨h1, h2⟩ := look_rid (l := r) h
      refine ⟨h1, ?_⟩
      simp only [look]
      have : Nat.beq k u = false := by
        have hkt := Nat.eq_of_beq_eq_true hk
        subst hkt
        cases hb : Nat.beq k u with
        | true => exact absurd (Nat.eq_of_beq_eq_true hb).symm h1
        | false => rfl
      rw [this]; exact h2
    | false =>
      rw [hk] at h
      simp only [cond_false, look] at h ⊢
      cases hu : Nat.beq k u with
      | true =>
        rw [hu] at h
        simp only [cond_true] at h ⊢
        refine ⟨fun e => ?_, h⟩
        subst e
        rw [hu] at hk; cases hk
      | false => rw [hu] at h; exact look_rid (l := r) h
theorem look_unw {gs : Gs} : ∀ {lc : Lc} {l : Env} {t : Nat} {s : SV}, look (unw lc l gs) t = some s → lk lc l t = some (.s s) ∨ ∃ g q, suff g gs = true ∧ lk lc l t = some (.c g q s)
  | [], l, t, s, h => by
    left
    unfold lk
    simp only [unw] at h
    simp [lookL, h]
  | (k, .s x) :: r, l, t, s, h => by
    simp only [unw, look] at h
    cases hk : Nat.beq k t with
    | true =>
      rw [hk] at h; simp only [cond_true] at h; cases h
      left; simp [lk, lookL, hk]
    | false =>
      rw [hk] at h
      have := look_unw (lc := r) h
      simpa [lk, lookL, hk] using this
  | (k, .c g q x) :: r, l, t, s, h => by
    simp only [unw] at h
    cases hs : suff g gs with
    | true =>
      rw [hs] at h
      simp only [cond_true, look] at h
      cases hk : Nat.beq k t with
      | true =>
        rw [hk] at h; simp only [cond_true] at h; cases h
        right; exact ⟨g, q, hs, by simp [lk, lookL, hk]⟩
      | false =>
        rw [hk] at h
        have := look_unw (lc := r) h
        simpa [lk, lookL, hk] using this
    | false =>
      rw [hs] at h
      obtain ⟨h1, h2⟩ := look_rid h
      have hk : Nat.beq k t = false := by
        cases hb : Nat.beq k t with
        | true => exact absurd (Nat.eq_of_beq_eq_true hb).symm h1
        | false => rfl
      have := look_unw (lc := r) h2
      simpa [lk, lookL, hk] using this

/-- all these guards say yes -/
def hold (ops : Array Oper) (a : Act) (gs : Gs) : Prop := ∀ p ∈ gs, yielded ops a.tmps p.1 = some p.2

section
variable {P : Program} {N : Nat} {w0 : World} {F0 : Heap} {D : Own} {w : World} {F : Heap} {L : List SP} {B B' : List (Option Box)} {ρ : Nat → Nat} {l : Env} {a : Act} {o : Oper} {ops : Array Oper} {lc : Lc}

def LVok (ops : Array Oper) (N : Nat) (F : Heap) (n : Nat) (ρ : Nat → Nat) (a : Act) (t : Nat) : LV → Prop
  | .s x => t < N ∧ a.tmps.getD t undef = x.den ρ ∧ x.good F ∧ x.under n = true
  | .c gs q x => t < N ∧ a.tmps.getD t undef = (if q = true then x.den ρ else undef) ∧ (q = true → x.good F ∧ x.under n = true) ∧ (q = true ↔ hold ops a gs)

structure Lx (ops : Array Oper) (N : Nat) (w0 : World) (F0 : Heap) (D : Own) (w : World) (F : Heap) (L : List SP) (B : List (Option Box)) (ρ : Nat → Nat) (lc : Lc) (l : Env) (a : Act) : Prop where
  base : Cx N w0 F0 D w F L B ρ [] a
  env : ∀ t v, lk lc l t = some v → LVok ops N F B.length ρ a t v

theorem Lx.start (h : Cx N w0 F0 D w F L B ρ l a) : Lx ops N w0 F0 D w F L B ρ [] l a := by
  refine ⟨h.pick .nil, fun t v e => ?_⟩
  simp only [lk, lookL] at e
  cases hl : look l t with
  | none => rw [hl] at e; cases e
  | some s => rw [hl] at e; cases e; exact ⟨(h.env t s hl).1, (h.env t s hl).2, (h.good t s hl).1, (h.good t s hl).2⟩

theorem Lx.unw {gs : Gs} (h : Lx ops N w0 F0 D w F L B ρ lc l a) (hg : hold ops a gs) : Cx N w0 F0 D w F L B ρ (unw lc l gs) a := by
  have key : ∀ t s, look (Gw.unw lc l gs) t = some s → t < N ∧ a.tmps.getD t undef = s.den ρ ∧ s.good F ∧ s.under B.length = true := by
    intro t s e
    rcases look_unw e with e | ⟨g, q, hs, e⟩
    · exact h.env t _ e
    · obtain ⟨h1, h2, h3, h5⟩ := h.env t _ e
      have hq : q = true := h5.2 (fun p hp => hg p (suff_mem hs p hp))
      rw [if_pos hq] at h2
      exact ⟨h1, h2, h3 hq⟩
  exact ⟨h.base.size, h.base.nodef, fun t s e => ⟨(key t s e).1, (key t s e).2.1⟩, fun t s e => (key t s e).2.2, h.base.bgood, h.base.fix, h.base.st⟩
theorem hold_nil (ops : Array Oper) (a : Act) : hold ops a [] := fun _ hp => by cases hp

theorem Lx.moved {w' : World} {B' : List (Option Box)} {ρ' : Nat → Nat} (h : Lx ops N w0 F0 D w F L B ρ lc l a) (h' : Cx N w0 F0 D w' F L B' ρ' [] a) (hB : B.length ≤ B'.length) (hρ : ∀ k, k < B.length → ρ' k = ρ k) : Lx ops N w0 F0 D w' F L B' ρ' lc l a := by
  refine ⟨h', fun t v e => ?_⟩
  have := h.env t v e
  cases v with
  | s x => exact ⟨this.1, by rw [this.2.1, SV.den_ext hρ this.2.2.2], this.2.2.1, SV.under_mono hB this.2.2.2⟩
  | c gs q x =>
    refine ⟨this.1, ?_, fun hq => ⟨(this.2.2.1 hq).1, SV.under_mono hB (this.2.2.1 hq).2⟩, this.2.2.2⟩
    rw [this.2.1]
    split
    · rename_i hq; exact (SV.den_ext hρ (this.2.2.1 hq).2).symm
    · rfl

/-- slot d is no guard of these -/
def freeG (ops : Array Oper) (d : Nat) : Gs → Bool
  | [] => true
  | (j, _) :: r => (match gslot ops j with | some e => !(Nat.beq e d) | none => true) && freeG ops d r
def freeL (ops : Array Oper) (d : Nat) : Lc → Bool
  | [] => true
  | (_, .s _) :: r => freeL ops d r
  | (_, .c gs _ _) :: r => freeG ops d gs && freeL ops d r

theorem yielded_put {d j : Nat} {v : Value} (a : Act) (h : (match gslot ops j with | some e => !(Nat.beq e d) | none => true) = true) : yielded ops (a.put (some d) v).tmps j = yielded ops a.tmps j := by
  unfold yielded
  unfold gslot at h
  cases hj : ops[j]? with
  | none => rfl
  | some oj =>
    rw [hj] at h
    simp only at h
    cases hd : oj.dst with
    | none => simp [hd]
    | some e =>
      rw [hd] at h
      have hne : e ≠ d := fun e' => by subst e'; simp at h
      simp only [Option.bind_some, hd, Act.put]
      rw [Array.getElem?_setIfInBounds_ne (Ne.symm hne)]
theorem hold_put {d : Nat} {v : Value} {a : Act} : ∀ {gs : Gs}, freeG ops d gs = true → (hold ops (a.put (some d) v) gs ↔ hold ops a gs)
  | [], _ => ⟨fun _ => hold_nil _ _, fun _ => hold_nil _ _⟩
  | (j, b) :: r, h => by
    simp only [freeG, Bool.and_eq_true] at h
    have e := yielded_put (v := v) a h.1
    have ih := hold_put (v := v) (a := a) h.2
    constructor
    · intro hh p hp
      rcases List.mem_cons.1 hp with e1 | e1
      · subst e1; rw [← e]; exact hh _ List.mem_cons_self
      · exact ih.1 (fun p hp => hh p (List.mem_cons_of_mem _ hp)) p e1
    · intro hh p hp
      rcases List.mem_cons.1 hp with e1 | e1
      · subst e1; rw [e]; exact hh _ List.mem_cons_self
      · exact ih.2 (fun p hp => hh p (List.mem_cons_of_mem _ hp)) p e1
theorem freeL_at {d : Nat} : ∀ {lc : Lc} {t : Nat} {gs : Gs} {q : Bool} {x : SV}, freeL ops d lc = true → lookL lc t = some (.c gs q x) → freeG ops d gs = true
  | [], _, _, _, _, _, e => by cases e
  | (k, .s y) :: r, t, gs, q, x, h, e => by
    simp only [lookL] at e
    cases hk : Nat.beq k t with
    | true => rw [hk] at e; simp only [cond_true] at e; cases e
    | false => rw [hk] at e; exact freeL_at (lc := r) h e
  | (k, .c g p y) :: r, t, gs, q, x, h, e => by
    simp only [freeL, Bool.and_eq_true] at h
    simp only [lookL] at e
    cases hk : Nat.beq k t with
    | true => rw [hk] at e; simp only [cond_true] at e; cases e; exact h.1
    | false => rw [hk] at e; exact freeL_at (lc := r) h.2 e

/-- a slot is written -/
theorem Lx.put (h : Lx ops N w0 F0 D w F L B ρ lc l a) {d : Nat} {v : LV} {u : Value} (hd : d < N) (hf : freeL ops d lc = true)
    (hv : match v with | .s x => u = x.den ρ ∧ x.good F ∧ x.under B.length = true | .c gs q x => u = (if q = true then x.den ρ else undef) ∧ (q = true → x.good F ∧ x.under B.length = true) ∧ (q = true ↔ hold ops a gs) ∧ freeG ops d gs = true) :
    Lx ops N w0 F0 D w F L B ρ ((d, v) :: lc) l (a.put (some d) u) := by
  have hda : d < a.tmps.size := by rw [h.base.size]; exact hd
  refine ⟨⟨by rw [put_size]; exact h.base.size, by rw [put_defers]; exact h.base.nodef, (fun t s e => by cases e), (fun t s e => by cases e), h.base.bgood, h.base.fix, h.base.st⟩, fun t v' e => ?_⟩
  simp only [lk, lookL] at e
  cases hk : Nat.beq d t with
  | true =>
    rw [hk] at e
    simp only [cond_true] at e
    cases e
    have := Nat.eq_of_beq_eq_true hk
    subst this
    cases v with
    | s x => exact ⟨hd, by rw [put_get_self _ _ _ hda]; exact hv.1, hv.2⟩
    | c gs q x => exact ⟨hd, by rw [put_get_self _ _ _ hda]; exact hv.1, hv.2.1, hv.2.2.1.trans (hold_put hv.2.2.2).symm⟩
  | false =>
    rw [hk] at e
    have hne : t ≠ d := fun e' => by rw [← e', Nat.beq_refl] at hk; cases hk
    have e' : lk lc l t = some v' := e
    have := h.env t v' e'
    cases v' with
    | s x => exact ⟨this.1, by rw [put_get_other _ _ _ _ hne]; exact this.2.1, this.2.2⟩
    | c gs q x =>
      refine ⟨this.1, by rw [put_get_other _ _ _ _ hne]; exact this.2.1, this.2.2.1, this.2.2.2.trans (hold_put ?_).symm⟩
      unfold lk at e'
      cases hl : lookL lc t with
      | none =>
        rw [hl] at e'
        cases hl2 : look l t with
        | none => rw [hl2] at e'; cases e'
        | some s => rw [hl2] at e'; cases e'
      | some v2 => rw [hl] at e'; cases e'; exact freeL_at hf hl

inductive G where
  | yes
  | no
  | sym (gs : Gs) (q : Bool)
def memB (j : Nat) : List Nat → Bool
  | [] => false
  | k :: r => Nat.beq j k || memB j r
/-- what a guard says; lit: the guards whose answer is written out -/
def gd (ops : Array Oper) (lit : List Nat) (lc : Lc) (l : Env) : Option (Nat × Bool) → Option G
  | none => some .yes
  | some (j, want) => match gslot ops j with
    | none => none
    | some d => bif memB j lit then (match lk lc l d with
        | some (.s (.v (.bool b))) => (match b, want with
          | true, true => some .yes
          | false, false => some .yes
          | _, _ => some .no)
        | some (.s (.v (.tuple _))) => some .no
        | _ => none)
      else match lk lc l d with
        | some (.s (.v (.bool b))) => some (.sym [(j, want)] (match want with | true => b | false => !b))
        | some (.c gs q (.v (.bool b))) => some (.sym ((j, want) :: gs) (q && (match want with | true => b | false => !b)))
        | _ => none

theorem LVok.get {d : Nat} {v : LV} (h : LVok ops N F B.length ρ a d v) (hs : a.tmps.size = N) : a.tmps[d]? = some (a.tmps.getD d undef) := by
  have hd : d < a.tmps.size := by cases v <;> (rw [hs]; exact h.1)
  simp [Array.getD, hd]
theorem yielded_slot {j d : Nat} (hj : gslot ops j = some d) (a : Act) : yielded ops a.tmps j = (match a.tmps[d]? with | some (.bool b) => some b | _ => none) := by
  unfold gslot at hj
  unfold yielded
  cases ho : ops[j]? with
  | none => rw [ho] at hj; cases hj
  | some oj =>
    rw [ho] at hj; simp only at hj; simp only [Option.bind_some, hj]
    rcases a.tmps[d]? with _ | v
    · rfl
    · cases v <;> rfl

def Gok (ops : Array Oper) (a : Act) (o : Oper) : G → Prop
  | .yes => Region.wanted o (yielded ops a.tmps) = true
  | .no => Region.wanted o (yielded ops a.tmps) = false
  | .sym gs q => Region.wanted o (yielded ops a.tmps) = q ∧ (q = true ↔ hold ops a gs)
theorem gd_ok {lit : List Nat} {g : G} (h : Lx ops N w0 F0 D w F L B ρ lc l a) (e : gd ops lit lc l o.guard = some g) : Gok ops a o g := by
  suffices hh : ∀ gu, gu = o.guard → (match g with
    | .yes => (match gu with | none => true | some (j, want) => yielded ops a.tmps j == some want) = true
    | .no => (match gu with | none => true | some (j, want) => yielded ops a.tmps j == some want) = false
    | .sym gs q => (match gu with | none => true | some (j, want) => yielded ops a.tmps j == some want) = q ∧ (q = true ↔ hold ops a gs)) by
    have := hh _ rfl
    cases g <;> exact this
  intro gu hgu
  rw [← hgu] at e
  clear hgu
  cases gu with
  | none => cases e; rfl
  | some jw =>
    obtain ⟨j, want⟩ := jw
    simp only [gd] at e
    cases hj : gslot ops j with
    | none => rw [hj] at e; cases e
    | some d =>
      rw [hj] at e
      simp only at e
      have hy := yielded_slot hj a
      cases hm : memB j lit with
      | true =>
        rw [hm] at e
        simp only [cond_true] at e
        cases hl : lk lc l d with
        | none => rw [hl] at e; cases e
        | some v =>
          rw [hl] at e
          have hv := h.env d v hl
          have hget := hv.get h.base.size
          cases v with
          | c gs q x => cases e
          | s x =>
            rw [hv.2.1] at hget
            cases x with
            | v y =>
              cases y with
              | bool b =>
                simp only [hget, SV.den] at hy
                cases b <;> cases want <;> cases e <;> simp [hy]
              | tuple vs =>
                simp only [hget, SV.den] at hy
                cases e; simp [hy]
              | _ => cases e
            | _ => cases e
      | false =>
        rw [hm] at e
        simp only [cond_false] at e
        cases hl : lk lc l d with
        | none => rw [hl] at e; cases e
        | some v =>
          rw [hl] at e
          have hv := h.env d v hl
          have hget := hv.get h.base.size
          cases v with
          | s x =>
            rw [hv.2.1] at hget
            cases x with
            | v y =>
              cases y with
              | bool b =>
                simp only [hget, SV.den] at hy
                cases e
                have hold1 : hold ops a [(j, want)] ↔ b = want := by
                  constructor
                  · intro hh
                    have := hh _ List.mem_cons_self
                    rw [hy] at this
                    exact Option.some.inj this
                  · intro hb p hp
                    rw [List.mem_singleton.1 hp, hy, hb]
                refine ⟨?_, ?_⟩
                · show (yielded ops a.tmps j == some want) = _
                  rw [hy]; cases b <;> cases want <;> rfl
                · rw [hold1]; cases b <;> cases want <;> simp
              | _ => cases e
            | _ => cases e
          | c gs q x =>
            cases x with
            | v y =>
              cases y with
              | bool b =>
                cases e
                obtain ⟨_, h2, _, h5⟩ := hv
                cases q with
                | false =>
                  rw [if_neg (by simp)] at h2
                  rw [h2] at hget
                  simp only [hget, undef] at hy
                  refine ⟨by simp [hy], ?_⟩
                  simp only [Bool.false_and, Bool.false_eq_true, false_iff]
                  intro hh
                  have := hh _ List.mem_cons_self
                  rw [hy] at this; cases this
                | true =>
                  rw [if_pos rfl] at h2
                  rw [h2] at hget
                  simp only [hget, SV.den] at hy
                  refine ⟨by show (yielded ops a.tmps j == some want) = _; rw [hy]; cases b <;> cases want <;> rfl, ?_⟩
                  have hgs : hold ops a gs := h5.1 rfl
                  have hold1 : hold ops a ((j, want) :: gs) ↔ b = want := by
                    constructor
                    · intro hh
                      have := hh _ List.mem_cons_self
                      rw [hy] at this
                      exact Option.some.inj this
                    · intro hb p hp
                      rcases List.mem_cons.1 hp with e1 | e1
                      · rw [e1, hy, hb]
                      · exact hgs p e1
                  rw [hold1]; cases b <;> cases want <;> simp
              | _ => cases e
            | _ => cases e

/-- the other operand of a && or ||: known under (j, w) beside gs, j's slot being tc -/
def side (ops : Array Oper) (lc : Lc) (l : Env) (gs : Gs) (tc : Nat) (w : Bool) : Operand → Option Bool
  | .const (.bool b) => some b
  | .tmp t => match lk lc l t with
    | some (.s (.v (.bool b))) => some b
    | some (.c ((j, w') :: g) _ (.v (.bool b))) => match gslot ops j with
      | some d => bif (Nat.beq d tc && (w' == w) && eqG g gs) then some b else (bif suff ((j, w') :: g) gs then some b else none)
      | none => none
    | _ => none
  | _ => none
def pickB (ops : Array Oper) (lit : List Nat) (lc : Lc) (l : Env) (gs : Gs) : Op → Option Value
  | .pick (.tmp tc) x y => bif litSlot ops tc lit then none else match look (unw lc l gs) tc with
    | some (.v (.bool b)) => match y, x with
      | .const (.bool false), x => match side ops lc l gs tc true x with | some c => some (.bool (b && c)) | none => none
      | y, .const (.bool true) => match side ops lc l gs tc false y with | some c => some (.bool (b || c)) | none => none
      | _, _ => none
    | _ => none
  | _ => none
where litSlot (ops : Array Oper) (tc : Nat) : List Nat → Bool
  | [] => false
  | j :: r => (match gslot ops j with | some d => Nat.beq d tc | none => false) || litSlot ops tc r

theorem side_ok {gs : Gs} {tc : Nat} {w' : Bool} {x : Operand} {b : Bool} (h : Lx ops N w0 F0 D w F L B ρ lc l a) (hg : hold ops a gs) (htc : a.tmps.getD tc undef = .bool w') (htN : tc < a.tmps.size)
    (e : side ops lc l gs tc w' x = some b) : a.eval x = .bool b := by
  cases x with
  | const v => cases v <;> simp only [side] at e <;> cases e; rfl
  | global g => cases e
  | func f => cases e
  | tmp t =>
    simp only [side] at e
    show a.tmps.getD t undef = _
    cases hl : lk lc l t with
    | none => rw [hl] at e; cases e
    | some v =>
      rw [hl] at e
      have hv := h.env t v hl
      cases v with
      | s y =>
        cases y with
        | v z => cases z <;> simp only at e <;> cases e; exact hv.2.1
        | _ => cases e
      | c g q y =>
        cases g with
        | nil => cases e
        | cons p g =>
          obtain ⟨j, w1⟩ := p
          cases y with
          | v z =>
            cases z with
            | bool c =>
              simp only at e
              obtain ⟨_, h2, _, h5⟩ := hv
              cases hj : gslot ops j with
              | none => rw [hj] at e; cases e
              | some d =>
                rw [hj] at e
                simp only at e
                have fin : q = true → b = c → a.tmps.getD t undef = .bool b := fun hq hb => by rw [h2, if_pos hq, hb]; rfl
                cases hc : (Nat.beq d tc && (w1 == w') && eqG g gs) with
                | true =>
                  rw [hc] at e
                  simp only [cond_true] at e
                  cases e
                  simp only [Bool.and_eq_true] at hc
                  obtain ⟨⟨c1, c2⟩, c3⟩ := hc
                  have c1 := Nat.eq_of_beq_eq_true c1
                  have c2 : w1 = w' := by simpa using c2
                  have c3 := eqG_eq c3
                  subst c1; subst c2; subst c3
                  refine fin (h5.2 fun p hp => ?_) rfl
                  rcases List.mem_cons.1 hp with e1 | e1
                  · rw [e1, yielded_slot hj a]
                    have : a.tmps[d]? = some (a.tmps.getD d undef) := by simp [Array.getD, htN]
                    rw [this, htc]
                  · exact hg p e1
                | false =>
                  rw [hc] at e
                  simp only [cond_false] at e
                  obtain ⟨hs, e⟩ := bif_some e
                  exact fin (h5.2 fun p hp => hg p (suff_mem hs p hp)) e.symm
            | _ => cases e
          | _ => cases e

theorem pickB_ok {gs : Gs} {lit : List Nat} {v : Value} (h : Lx ops N w0 F0 D w F L B ρ lc l a) (hg : hold ops a gs) (e : pickB ops lit lc l gs o.op = some v) : (execOp a.eval o).run P w = .ok (.value v) w := by
  cases hop : o.op with
  | pick c x y =>
    rw [hop] at e
    cases c with
    | tmp tc =>
      simp only [pickB] at e
      cases hlit : pickB.litSlot ops tc lit with
      | true => rw [hlit] at e; cases e
      | false =>
        rw [hlit] at e
        simp only [cond_false] at e
        cases hl : look (Gw.unw lc l gs) tc with
        | none => rw [hl] at e; cases e
        | some s =>
          rw [hl] at e
          have hX := h.unw hg
          obtain ⟨htN, hden⟩ := hX.env tc s hl
          have htN' : tc < a.tmps.size := by rw [h.base.size]; exact htN
          cases s with
          | v z =>
            cases z with
            | bool b =>
              simp only at e
              have hev : a.eval (.tmp tc) = .bool b := hden
              have run : ∀ r, (if b = true then a.eval x else a.eval y) = r → (execOp a.eval o).run P w = .ok (.value r) w := by
                intro r hr
                unfold execOp
                rw [hop]
                simp only [hev, asBool, Sem.run_bind, Sem.run_pure, Result.andThen_ok, pure_bind]
                rw [← hr]
              have hand : ∀ c, side ops lc l gs tc true x = some c → y = .const (.bool false) → v = .bool (b && c) → (execOp a.eval o).run P w = .ok (.value v) w := by
                intro c hs hy hv
                subst hy; subst hv
                refine run _ ?_
                cases b with
                | true => simpa using side_ok h hg hden htN' hs
                | false => rfl
              have hor : ∀ c, side ops lc l gs tc false y = some c → x = .const (.bool true) → v = .bool (b || c) → (execOp a.eval o).run P w = .ok (.value v) w := by
                intro c hs hx hv
                subst hx; subst hv
                refine run _ ?_
                cases b with
                | true => rfl
                | false => simpa using side_ok h hg hden htN' hs
              split at e
              · cases hs : side ops lc l gs tc true x with
                | none => rw [hs] at e; cases e
                | some c => rw [hs] at e; cases e; exact hand c hs rfl rfl
              · cases hs : side ops lc l gs tc false y with
                | none => rw [hs] at e; cases e
                | some c => rw [hs] at e; cases e; exact hor c hs rfl rfl
              · cases e
            | _ => cases e
          | _ => cases e
    | _ => cases e
  | _ => rw [hop] at e; cases e

def quietG (P : Program) (ops : Array Oper) (lit : List Nat) (lc : Lc) (l : Env) (B : List (Option Box)) (gs : Gs) (o : Oper) : Option SV := match pickB ops lit lc l gs o.op with
  | some v => some (.v v)
  | none => quiet P (unw lc l gs) B o
theorem quietG_ok {gs : Gs} {lit : List Nat} {s : SV} (h : Lx ops N w0 F0 D w F L B ρ lc l a) (hg : hold ops a gs) (e : quietG P ops lit lc l B gs o = some s) : (execOp a.eval o).run P w = .ok (.value (s.den ρ)) w ∧ s.good F ∧ s.under B.length = true := by
  unfold quietG at e
  cases hp : pickB ops lit lc l gs o.op with
  | some v => rw [hp] at e; cases e; exact ⟨pickB_ok h hg hp, trivial, rfl⟩
  | none => rw [hp] at e; exact quiet_ok (h.unw hg) e

def push (N : Nat) (ops : Array Oper) (lc : Lc) (d : Option Tmp) (v : LV) : Option Lc := match d with
  | some d => bif (Nat.blt d N && freeL ops d lc && (match v with | .s _ => true | .c gs _ _ => freeG ops d gs)) then some ((d, v) :: lc) else none
  | none => some lc

def orU : Option SV → SV
  | some s => s
  | none => .v undef
/-- so many operations at once -/
def batch (P : Program) (N : Nat) (ops : Array Oper) (lit : List Nat) : List Oper → Lc → Env → List (Option Box) → Option (Lc × List (Option Box))
  | [], lc, _, B => some (lc, B)
  | o :: r, lc, l, B => match gd ops lit lc l o.guard with
    | some .yes => match quietG P ops lit lc l B [] o with
      | some s => match push N ops lc o.dst (.s s) with | some lc' => batch P N ops lit r lc' l B | none => none
      | none => match ownM P (unw lc l []) B o.op with
        | some (q, B') => match push N ops lc o.dst (.s (orU q)) with | some lc' => batch P N ops lit r lc' l B' | none => none
        | none => none
    | some .no => match push N ops lc o.dst (.s (.v undef)) with | some lc' => batch P N ops lit r lc' l B | none => none
    | some (.sym gs q) => match quietG P ops lit lc l B gs o with
      | some s => match push N ops lc o.dst (.c gs q s) with | some lc' => batch P N ops lit r lc' l B | none => none
      | none => none
    | none => none

theorem Lx.push {d : Option Tmp} {v : LV} {u : Value} {lc' : Lc} (h : Lx ops N w0 F0 D w F L B ρ lc l a) (e : push N ops lc d v = some lc')
    (hv : match v with | .s x => u = x.den ρ ∧ x.good F ∧ x.under B.length = true | .c gs q x => u = (if q = true then x.den ρ else undef) ∧ (q = true → x.good F ∧ x.under B.length = true) ∧ (q = true ↔ hold ops a gs)) :
    Lx ops N w0 F0 D w F L B ρ lc' l (a.put d u) := by
  cases d with
  | none => cases e; exact h
  | some d =>
    simp only [Gw.push] at e
    obtain ⟨hc, e⟩ := bif_some e
    subst e
    simp only [Bool.and_eq_true] at hc
    obtain ⟨⟨h1, h2⟩, h3⟩ := hc
    refine h.put (Nat.le_of_ble_eq_true h1) h2 ?_
    cases v with
    | s x => exact hv
    | c gs q x => exact ⟨hv.1, hv.2.1, hv.2.2, h3⟩

theorem ownM_grows {r : Option SV} (e : ownM P l B o.op = some (r, B')) : B.length ≤ B'.length := by
  cases hop : o.op with
  | alloc t =>
    rw [hop] at e; simp only [ownM] at e
    cases hi : P.info? t with
    | none => rw [hi] at e; cases e
    | some i =>
      rw [hi] at e; simp only at e
      cases hz : i.zero with
      | none => rw [hz] at e; cases e
      | some z => rw [hz] at e; cases e; simp
  | box t x =>
    rw [hop] at e; simp only [ownM] at e
    cases hx : ov l x with
    | none => rw [hx] at e; cases e
    | some s =>
      rw [hx] at e; simp only at e
      cases hc : s.cells with
      | none => rw [hc] at e; cases e
      | some cs => rw [hc] at e; cases e; simp
  | buildSlice t len ps =>
    rw [hop] at e; simp only [ownM] at e
    split at e
    · split at e
      · split at e
        · obtain ⟨_, e⟩ := bif_some e; cases e; simp
        · cases e
      · cases e
    · cases e
  | store t x y =>
    rw [hop] at e; simp only [ownM] at e
    split at e
    · split at e
      · obtain ⟨_, e⟩ := bif_some e; cases e; simp
      · cases e
    · cases e
  | _ => rw [hop] at e; simp only [ownM] at e; cases e

theorem batch_ok {lit : List Nat} {Q : Exit → Act → World → Prop} {rest : List Oper} : ∀ {os : List Oper} {lc lc' : Lc} {B B' : List (Option Box)} {ρ : Nat → Nat} {w : World} {a : Act},
    batch P N ops lit os lc l B = some (lc', B') → Lx ops N w0 F0 D w F L B ρ lc l a → (∀ ρ' w' a', Lx ops N w0 F0 D w' F L B' ρ' lc' l a' → wpList P ops Q rest a' w') → wpList P ops Q (os ++ rest) a w
  | [], lc, lc', B, B', ρ, w, a, e, h, hK => by cases e; exact hK _ _ _ h
  | o :: r, lc, lc', B, B', ρ, w, a, e, h, hK => by
    simp only [batch] at e
    show wpList P ops Q (o :: (r ++ rest)) a w
    cases hg : gd ops lit lc l o.guard with
    | none => rw [hg] at e; cases e
    | some g =>
      rw [hg] at e
      have hgd := gd_ok h hg
      cases g with
      | no =>
        simp only at e
        cases hp : Gw.push N ops lc o.dst (.s (.v undef)) with
        | none => rw [hp] at e; cases e
        | some lc1 =>
          rw [hp] at e
          exact wpList_pass hgd (batch_ok e (h.push hp ⟨rfl, trivial, rfl⟩) hK)
      | sym gs q =>
        simp only at e
        cases hs : quietG P ops lit lc l B gs o with
        | none => rw [hs] at e; cases e
        | some s =>
          rw [hs] at e
          simp only at e
          cases hp : Gw.push N ops lc o.dst (.c gs q s) with
          | none => rw [hp] at e; cases e
          | some lc1 =>
            rw [hp] at e
            cases q with
            | true =>
              have hq := quietG_ok h (hgd.2.1 rfl) hs
              exact wpList_go hgd.1 (wp_of_run hq.1 (batch_ok e (h.push hp ⟨by rw [if_pos rfl], fun _ => hq.2, hgd.2⟩) hK))
            | false =>
              exact wpList_pass hgd.1 (batch_ok e (h.push hp ⟨by rw [if_neg (by simp)], (fun h => by cases h), hgd.2⟩) hK)
      | yes =>
        simp only at e
        cases hs : quietG P ops lit lc l B [] o with
        | some s =>
          rw [hs] at e
          simp only at e
          cases hp : Gw.push N ops lc o.dst (.s s) with
          | none => rw [hp] at e; cases e
          | some lc1 =>
            rw [hp] at e
            have hq := quietG_ok h (hold_nil _ _) hs
            exact wpList_go hgd (wp_of_run hq.1 (batch_ok e (h.push hp ⟨rfl, hq.2.1, hq.2.2⟩) hK))
        | none =>
          rw [hs] at e
          simp only at e
          cases hm : ownM P (Gw.unw lc l []) B o.op with
          | none => rw [hm] at e; cases e
          | some qB =>
            obtain ⟨q, B1⟩ := qB
            rw [hm] at e
            simp only at e
            cases hp : Gw.push N ops lc o.dst (.s (orU q)) with
            | none => rw [hp] at e; cases e
            | some lc1 =>
              rw [hp] at e
              obtain ⟨ρ1, w1, hy, hfine, h1, hρ⟩ := ownM_ok (h.unw (hold_nil _ _)) hm
              have h2 := h.moved (h1.pick .nil) (ownM_grows hm) hρ
              cases q with
              | none => exact wpList_go hgd (wp_of_skip hy (batch_ok e (h2.push hp ⟨rfl, trivial, rfl⟩) hK))
              | some s => exact wpList_go hgd (wp_of_run hy (batch_ok e (h2.push hp ⟨rfl, hfine.1, hfine.2⟩) hK))

def keep (l : Env) : List Nat → Option Env
  | [] => some []
  | t :: r => match look l t, keep l r with | some s, some l' => some ((t, s) :: l') | _, _ => none
theorem keep_picks {l : Env} : ∀ {ks : List Nat} {l' : Env}, keep l ks = some l' → Picks l l'
  | [], l', e => by cases e; exact .nil
  | t :: r, l', e => by
    simp only [keep] at e
    cases ht : look l t with
    | none => rw [ht] at e; cases e
    | some s =>
      cases hr : keep l r with
      | none => rw [ht, hr] at e; cases e
      | some l2 => rw [ht, hr] at e; cases e; exact .cons ht (keep_picks hr)

def run (P : Program) (N : Nat) (ops : Array Oper) (lit : List Nat) (os : List Oper) (ks : List Nat) (l : Env) (B : List (Option Box)) : Option (Env × List (Option Box)) := match batch P N ops lit os [] l B with
  | some (lc, B') => match keep (unw lc l []) ks with | some l' => some (l', B') | none => none
  | none => none

/-- the first n operations of what is left -/
theorem Cx.part {os : List Oper} {Q : Exit → Act → World → Prop} {l' : Env} (h : Cx N w0 F0 D w F L B ρ l a) (lit : List Nat) (n : Nat) (ks : List Nat) (e : run P N ops lit (os.take n) ks l B = some (l', B'))
    (hK : ∀ ρ' w' a', Cx N w0 F0 D w' F L B' ρ' l' a' → wpList P ops Q (os.drop n) a' w') : wpList P ops Q os a w := by
  unfold run at e
  cases hb : batch P N ops lit (os.take n) [] l B with
  | none => rw [hb] at e; cases e
  | some r =>
    obtain ⟨lc, B1⟩ := r
    rw [hb] at e
    simp only at e
    cases hk : keep (Gw.unw lc l []) ks with
    | none => rw [hk] at e; cases e
    | some l1 =>
      rw [hk] at e; cases e
      have := batch_ok hb (Lx.start h) (rest := os.drop n) (Q := Q) (fun ρ' w' a' h' => hK ρ' w' a' ((h'.unw (hold_nil _ _)).pick (keep_picks hk)))
      rwa [List.take_append_drop] at this
/-- a whole region of them -/
theorem Cx.region {id : Nat} {Q : Exit → Act → World → Prop} {l' : Env} (h : Cx N w0 F0 D w F L B ρ l a) (lit : List Nat) (ks : List Nat) (e : run P N ops lit ops.toList ks l B = some (l', B'))
    (hK : ∀ ρ' w' a', Cx N w0 F0 D w' F L B' ρ' l' a' → Q .normal a' w') : (Code.region id ops false).wp P Q a w :=
  wp_region_list (by
    have := h.part (ops := ops) (os := ops.toList) (Q := Q) lit ops.toList.length ks (by rw [List.take_length]; exact e) (fun ρ' w' a' h' => by rw [List.drop_length]; exact hK ρ' w' a' h')
    exact this)
end
end Go.Gw

