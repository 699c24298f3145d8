/- Objects told anew; states and shapes. For any program. -/
import Derived.Test.YtglnkknalibgdaaDoorDnL
import Derived.Test.YtglnkknalibgdaaDoorDnM
set_option linter.unusedVariables false
set_option linter.unusedSimpArgs false
set_option linter.unnecessarySimpa false
namespace Go.Dn
open Go.Gw Go.RowKit
set_option linter.unusedSectionVars false
variable [Dfr]
set_option linter.unusedSimpArgs false

section
variable {T : Nat → Type}
def Sy.pick (s : Sy T) (L : List Nat) : Sy T := ⟨subEnv (rnSb T L) s.l, L.map fun j => (s.m.getD j .gone).sub (rnSb T L)⟩
def picks (acc : List (Nat × Nat)) : Nat → Nat → Option (List Nat)
  | _, 0 => some []
  | k, n + 1 => match look2 acc k, picks acc (k + 1) n with
    | some j, some r => some (j :: r)
    | _, _ => none
def arrsOut (L : List Nat) : Nat → List (Mem T) → List Nat
  | _, [] => []
  | k, .arr _ _ :: m => bif freshB L k then k :: arrsOut L (k + 1) m else arrsOut L (k + 1) m
  | k, _ :: m => arrsOut L (k + 1) m
def headOk (L : List Nat) : Nat → Nat → Bool
  | _, 0 => true
  | i, n + 1 => (match L[i]? with | some j => Nat.beq j i | none => false) && headOk L (i + 1) n
def pickOk (s : Sy T) (h : Nat) (L : List Nat) : Bool := nodupB L && L.all (fun j => Nat.blt j s.m.length) && headOk L 0 h
theorem headOk_ok {L : List Nat} : ∀ {n i : Nat}, headOk L i n = true → ∀ j, i ≤ j → j < i + n → L[j]? = some j
  | 0, i, _, j, h1, h2 => by omega
  | n + 1, i, e, j, h1, h2 => by
    simp only [headOk, Bool.and_eq_true] at e
    by_cases hj : j = i
    · subst hj
      have := e.1
      split at this
      · rename_i x hx; rw [hx, Nat.eq_of_beq_eq_true this]
      · cases this
    · exact headOk_ok e.2 j (by omega) (by omega)
/-- the state, only what a shape speaks of, told as the shape tells it -/
def Sy.fit (h : Nat) (ps : List (Nat × Pat)) (σ : List MPat) (s : Sy T) (as : List (AV T)) : Option (Sy T) :=
  let r := tie σ s.m 4096 (pre h (evS ps as)) [] []
  let q := lay σ r.2 s r.1
  match picks q.2 0 σ.length with
  | some L => let s2 := q.1.frzs (arrsOut L 0 q.1.m)
    bif pickOk s2 h L then some (s2.pick L) else none
  | none => none
end

section
variable {Y : Tys} {hY : TysOk Y} {P : Program} {N : Nat} {w0 : World} {F0 : Heap} {D : Own} {H : List (Option Nat)} {w w' : World} {F F' : Heap} {ρ ρ' : List Pl} {os os' : List (Option Obj)} {s s' : Sy Y.T} {a a' : Act} {ok : Nat → Bool}

theorem Cy.pick (h : Cy hY N w0 F0 D H w F ρ os s a) {L : List Nat} (hc : pickOk s H.length L = true) : Cy hY N w0 F0 D H w F (selL L ρ pl0) (selL L os none) (s.pick L) a := by
  unfold pickOk at hc
  simp only [Bool.and_eq_true, List.all_eq_true] at hc
  have hn := nodupB_ok hc.1.1
  have hlt : ∀ j ∈ L, j < ρ.length := fun j hj => by rw [← h.len]; exact Nat.le_of_ble_eq_true (hc.1.2 j hj)
  have hH : ∀ i, i < H.length → L[i]? = some i := fun i hi => headOk_ok hc.2 i (Nat.zero_le _) (by omega)
  have hpl : ∀ {j i : Nat}, L[j]? = some i → ∃ (p : Pl) (o : Option Obj) (x : Mem Y.T), ρ[i]? = some p ∧ os[i]? = some o ∧ s.m[i]? = some x ∧ (selL L ρ pl0)[j]? = some p ∧ (selL L os none)[j]? = some o ∧ (L.map fun j => (s.m.getD j .gone).sub (rnSb Y.T L))[j]? = some (x.sub (rnSb Y.T L)) := fun {j i} hj => by
    have h1 := hlt i (List.mem_of_getElem? hj)
    have h2 : i < os.length := by rw [h.lon]; exact h1
    have h3 : i < s.m.length := by rw [h.len]; exact h1
    exact ⟨ρ[i], os[i], s.m[i], List.getElem?_eq_getElem h1, List.getElem?_eq_getElem h2, List.getElem?_eq_getElem h3, by rw [selL_get, hj]; simp [List.getD, h1], by rw [selL_get, hj]; simp [List.getD, h2], by rw [List.getElem?_map, hj]; simp [List.getD, h3]⟩
  have lead1 : Leads Y (rnSb Y.T L) F ρ F (selL L ρ pl0) := by
    refine ⟨.refl F, fun i p hp => ?_, fun i z n off p hp => ?_, fun i off p hp => ?_⟩ <;> simp only [rnSb] <;> cases hpos : posOf L i with
    | none => exact .junk
    | some j =>
      obtain ⟨p', o', x', h1, _, _, h2, _⟩ := hpl (posOf_some hpos)
      rw [hp] at h1; cases h1
      first
        | exact .own h2
        | exact .oel h2
        | exact .ptr h2
  have hst1 : Gw.St w0 F0 D w F (pts ρ (outs L os) ++ pts (selL L ρ pl0) (selL L os none)) := h.st.retold fun x hx => all_out hn hlt h.lon hx
  refine ⟨lead1.ey hY h.e, by simp [Sy.pick, selL], by simp [selL], fun j x p o h1 h2 h3 => ?_, hst1.only, fun k b hb => ?_, ?_⟩
  · have h1 : (L.map fun j => (s.m.getD j .gone).sub (rnSb Y.T L))[j]? = some x := h1
    have h0 : j < L.length := by have := (List.getElem?_eq_some_iff.1 h1).1; simpa using this
    obtain ⟨p', o', x', q1, q2, q3, q4, q5, q6⟩ := hpl (List.getElem?_eq_getElem h0)
    rw [h2] at q4; rw [h3] at q5; rw [h1] at q6
    cases q4; cases q5; cases q6
    exact lead1.mem (h.mem _ x' p o q3 q1 q2)
  · obtain ⟨⟨p, hp, hpb⟩, hna⟩ := h.fix k b hb
    have hk : k < H.length := (List.getElem?_eq_some_iff.1 hb).1
    obtain ⟨p', o', x', q1, q2, q3, q4, q5, q6⟩ := hpl (hH k hk)
    rw [hp] at q1; cases q1
    refine ⟨⟨p, q4, hpb⟩, fun y h1 => ?_⟩
    have h1 : (L.map fun j => (s.m.getD j .gone).sub (rnSb Y.T L))[k]? = some y := h1
    rw [q6] at h1
    cases h1
    rw [Mem.still_sub]; exact hna x' q3
  · show H.length ≤ (selL L ρ pl0).length
    simp only [selL, List.length_map]
    rcases Nat.eq_zero_or_pos H.length with h0 | h0
    · omega
    · have := (List.getElem?_eq_some_iff.1 (hH (H.length - 1) (by omega))).1
      omega

theorem Cy.fit (h : Cy hY N w0 F0 D H w F ρ os s a) {ps : List (Nat × Pat)} {σ : List MPat} {as : List (AV Y.T)} (e : s.fit H.length ps σ as = some s') : ∃ F' ρ' os', Cy hY N w0 F0 D H w F' ρ' os' s' a := by
  unfold Sy.fit at e
  dsimp only at e
  split at e
  · rename_i L hL
    obtain ⟨hc, e⟩ := bif_some e
    subst e
    obtain ⟨ρ1, os1, h1, _⟩ := h.lay (ok := fun _ => true) σ (tie σ s.m 4096 (pre H.length (evS ps as)) [] []).2 (tie σ s.m 4096 (pre H.length (evS ps as)) [] []).1
    obtain ⟨F2, os2, h2, _⟩ := h1.frzs (ok := fun _ => true) (arrsOut L 0 (Dn.lay σ (tie σ s.m 4096 (pre H.length (evS ps as)) [] []).2 s (tie σ s.m 4096 (pre H.length (evS ps as)) [] []).1).1.m)
    exact ⟨F2, _, _, h2.pick hc⟩
  · cases e

/-- the data of a state that has a shape -/
def matchS (Y : Tys) (h : Nat) (σ : Shape) (s : Sy Y.T) : Option (ParS Y σ) := match looks Y s.l (keys σ.l) with
  | some as => (match Sy.fit h σ.l σ.m (⟨zipE Y (keys σ.l) as, s.m⟩ : Sy Y.T) as with
    | some s' => matchAt Y σ s'
    | none => none)
  | none => none
theorem matchS_ok {σ : Shape} {z : ParS Y σ} (h : Cy hY N w0 F0 D H w F ρ os s a) (e : matchS Y H.length σ s = some z) : ∃ F' ρ' os', Cy hY N w0 F0 D H w F' ρ' os' (fillS Y σ z) a := by
  unfold matchS at e
  split at e
  · rename_i as has
    split at e
    · rename_i s' hs'
      obtain ⟨l1, l2⟩ := looks_ok has
      have h1 : Cy hY N w0 F0 D H w F ρ os (⟨zipE Y (keys σ.l) as, s.m⟩ : Sy Y.T) a := h.slots fun t x hx => by
        obtain ⟨i, h3, h4⟩ := zipE_ok hx
        exact l2 i t x h3 h4
      obtain ⟨F', ρ', os', h2⟩ := h1.fit hs'
      exact ⟨F', ρ', os', matchAt_ok h2 e⟩
    · cases e
  · cases e
end
end Go.Dn

