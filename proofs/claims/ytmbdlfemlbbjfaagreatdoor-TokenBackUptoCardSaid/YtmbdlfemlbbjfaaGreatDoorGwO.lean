/- A builder's bytes handed out as a string. For any program. -/
import Derived.Test.YtmbdlfemlbbjfaaGreatDoorGwN
import Derived.Lib.UnsafeStr
set_option linter.unusedVariables false
set_option linter.unusedSimpArgs false
set_option linter.unnecessarySimpa false
namespace Go.Gw
open Go.RowKit

section
variable {P : Program} {N : Nat} {w0 : World} {F0 : Heap} {D : Own} {w : World} {F : Heap} {L L' M M' : List SP} {B B' : List (Option Box)} {ρ : Nat → Nat} {l : Env} {a : Act} {o : Oper} {ops : Array Oper} {lit : List Nat} {rest : List Oper} {Q : Exit → Act → World → Prop}

theorem freeze_block (w : World) (g n x : Nat) (hx : x ≠ g) : (w.freeze ⟨g, 0, none⟩ n).heap[x]? = w.heap[x]? := by
  unfold World.freeze
  split
  · rfl
  · simp [Array.getElem?_modify, Ne.symm hx]
theorem freeze_size (w : World) (p : Addr) (n : Nat) : (w.freeze p n).heap.size = w.heap.size := by
  unfold World.freeze
  split
  · rfl
  · simp
theorem freeze_rest (w : World) (p : Addr) (n : Nat) : (w.freeze p n).os = w.os ∧ (w.freeze p n).tape = w.tape ∧ (w.freeze p n).output = w.output := by
  unfold World.freeze
  split <;> exact ⟨rfl, rfl, rfl⟩

theorem Cx.sliceData {T e e2 : TypeId} {x : Operand} {i : Nat} {xs : Str} {A : Option Addr} {c : Nat} (h : Cx N w0 F0 D w F L B ρ l a) (hg : gd ops lit [] l o.guard = some .yes) (hd : fitsB N o.dst = true) (hL : L[i]? = some (accP e2 kByte A c xs))
    (hop : o.op = .call { callee := .builtin .unsafeSliceData, args := #[x], argTypes := #[T] }) (hT : P.underlying o.type = some (.pointer e)) (hx : ov l x = some (.v (.slice A xs.length c)))
    (hK : ∀ q w' a', (xs = [] ∨ q = A) → Cx N w0 F0 D w' F L B ρ (after l o.dst (.v (.pointer q))) a' → wpList P ops Q rest a' w') : wpList P ops Q (o :: rest) a w := by
  have e1 : a.eval x = .slice A xs.length c := h.eval hx
  have hi' := boxes_get ρ B L hL
  obtain ⟨q, ha, hs', _, _⟩ := h.st.own
  obtain ⟨g, kk, hacc, _, rfl, _, _⟩ := all_at hi' ha
  have hsub : g.Sub w := hs'.of_join_left
  rcases hacc with ⟨rfl, rfl, rfl, rfl⟩ | ⟨b, cells, rfl, rfl, hl, _, _, _⟩
  · refine h.oneOp hg hd (s := .v (.pointer none)) (ρ' := ρ) ?_ h trivial rfl (fun a' h' => hK none w a' (.inl rfl) h')
    have := Lib.run_unsafeSliceData_nil (P := P) w #[T] o.type 0 0
    unfold execOp; rw [hop]
    simp only [resolve, invoke, builtin, Sem.run_bind, Sem.run_pure, Result.andThen_ok, List.map_toArray, List.map_cons, List.map_nil, e1, List.length_nil, this, SV.den, pure_bind]
  · by_cases hc : c = 0
    · subst hc
      have hxs : xs = [] := List.length_eq_zero_iff.1 (by omega)
      subst hxs
      have hblk : w.heap[b]? = some (.cells cells e2 (0, 0)) := hsub.out b _ (Heap.one_self _ _)
      have := Lib.run_unsafeSliceData_zero (P := P) w #[T] o.type e hT ⟨b, 0, none⟩ 0 (e2, cells.size) (by simp [World.shape?, hblk])
      have h2 : Cx N w0 F0 D (w.alloc (.view ⟨b, 0, none⟩ e)) F L B ρ l a := by
        refine ⟨h.size, h.nodef, h.env, h.good, h.bgood, h.fix, ?_⟩
        exact (h.st.alloc (.view ⟨b, 0, none⟩ e)).forget
      refine h.oneOp hg hd (s := .v (.pointer (some ⟨w.heap.size, 0, none⟩))) (ρ' := ρ) ?_ h2 trivial rfl (fun a' h' => hK _ _ a' (.inl rfl) h')
      unfold execOp; rw [hop]
      simp only [resolve, invoke, builtin, Sem.run_bind, Sem.run_pure, Result.andThen_ok, List.map_toArray, List.map_cons, List.map_nil, e1, List.length_nil, this, SV.den, pure_bind]
    · refine h.oneOp hg hd (s := .v (.pointer (some ⟨b, 0, none⟩))) (ρ' := ρ) ?_ h trivial rfl (fun a' h' => hK _ w a' (.inr rfl) h')
      have := Lib.run_unsafeSliceData_row (P := P) w #[T] o.type ⟨b, 0, none⟩ xs.length c hc
      unfold execOp; rw [hop]
      simp only [resolve, invoke, builtin, Sem.run_bind, Sem.run_pure, Result.andThen_ok, List.map_toArray, List.map_cons, List.map_nil, e1, this, SV.den, pure_bind]

theorem Cx.unsString {T T2 e : TypeId} {x y : Operand} {i : Nat} {xs : Str} {A q : Option Addr} {c : Nat} (h : Cx N w0 F0 D w F L B ρ l a) (hg : gd ops lit [] l o.guard = some .yes) (hd : fitsB N o.dst = true) (hL : L[i]? = some (accP e kByte A c xs))
    (hop : o.op = .call { callee := .builtin .unsafeString, args := #[x, y], argTypes := #[T, T2] }) (hT : P.underlying T = some (.pointer e)) (hce : P.cellsOf e = 1) (hx : ov l x = some (.v (.pointer q))) (hy : ov l y = some (.v (.int .i64 xs.length))) (hq : xs = [] ∨ q = A)
    (hK : ∀ w' a', Cx N w0 F0 D w' F (L.eraseIdx i) B ρ (after l o.dst (.v (.string ⟨⟨xs⟩⟩))) a' → wpList P ops Q rest a' w') : wpList P ops Q (o :: rest) a w := by
  have e1 : a.eval x = .pointer q := h.eval hx
  have e2 : a.eval y = .int .i64 xs.length := h.eval hy
  by_cases hne : xs = []
  · subst hne
    have h2 := h.dropL i hL rfl
    refine h.oneOp hg hd (s := .v (.string ⟨⟨[]⟩⟩)) (ρ' := ρ) ?_ h2 trivial rfl (fun a' h' => hK w a' h')
    have := Lib.run_unsafeString_none (P := P) w T T2 o.type q
    unfold execOp; rw [hop]
    simp only [resolve, invoke, builtin, Sem.run_bind, Sem.run_pure, Result.andThen_ok, List.map_toArray, List.map_cons, List.map_nil, e1, e2, List.length_nil, Int.natCast_zero, this, SV.den, pure_bind]
    rfl
  · obtain rfl : q = A := hq.resolve_left hne
    have hi' := boxes_get ρ B L hL
    obtain ⟨q2, ha, hs', _, _⟩ := h.st.own
    obtain ⟨g, kk, hacc, _, rfl, _, _⟩ := all_at hi' ha
    have hsub : g.Sub w := hs'.of_join_left
    rcases hacc with ⟨_, _, h1, _⟩ | ⟨b, cells, rfl, rfl, hl, hcm, hsz, hrow⟩
    · exact absurd h1 hne
    · have hblk : w.heap[b]? = some (.cells cells e (0, 0)) := hsub.out b _ (Heap.one_self _ _)
      have hsz' : cells.size = c := by rw [hsz]; exact Nat.mul_one c
      have hrun := Lib.run_unsafeString_row (P := P) w T T2 o.type e hT hce b cells.size (by simp [World.shape?, hblk]) xs hne (by omega) (by rw [maxLen_eq] at hcm; omega) (fun j u hj => by
        obtain ⟨cs, c1, c2⟩ := hrow j u hj
        have c1 : cs = [.int .u8 (u.toNat : Int)] := c1
        subst c1
        have h3 := c2 0 _ rfl
        simp only [kByte, Nat.mul_one, Nat.add_zero] at h3
        rw [add_at, Nat.zero_add]
        unfold World.cell?
        rw [hblk]
        simp only [Option.isSome_none, Bool.false_eq_true, if_false]
        rw [← Array.getElem?_toList]; exact h3)
      have hst := h.st.replace (A1 := emp) (w' := w.freeze ⟨b, 0, none⟩ xs.length) hi' (fun g0 hg0 hs0 => by
        have : g0 = Heap.one b (.cells cells e (0, 0)) := accP_one hg0 hs0 (.inr ⟨b, cells, rfl, rfl, hl, hcm, hsz, hrow⟩) hsub
        subst this
        obtain ⟨f1, f2, f3⟩ := freeze_rest w ⟨b, 0, none⟩ xs.length
        refine ⟨f1, f2, f3, Nat.le_of_eq (freeze_size _ _ _).symm, fun x _ hx => freeze_block w b _ x (fun e => by subst e; rw [Heap.one_self] at hx; cases hx), Heap.nil, rfl, ⟨fun _ _ e => by cases e⟩, fun _ _ e => by cases e⟩)
      rw [boxes_setL] at hst
      have h2 : Cx N w0 F0 D (w.freeze ⟨b, 0, none⟩ xs.length) F (L.eraseIdx i) B ρ l a := by
        have h3 : Cx N w0 F0 D (w.freeze ⟨b, 0, none⟩ xs.length) F (L.set i emp) B ρ l a := ⟨h.size, h.nodef, h.env, h.good, h.bgood, h.fix, hst⟩
        have hi : i < L.length := (List.getElem?_eq_some_iff.1 hL).1
        refine h3.dropL i (A := emp) (by rw [List.getElem?_set_self hi]) ?_
        rw [List.eraseIdx_set_eq]
      refine h.oneOp hg hd (s := .v (.string ⟨⟨xs⟩⟩)) (ρ' := ρ) ?_ h2 trivial rfl (fun a' h' => hK _ a' h')
      unfold execOp; rw [hop]
      simp only [resolve, invoke, builtin, Sem.run_bind, Sem.run_pure, Result.andThen_ok, List.map_toArray, List.map_cons, List.map_nil, e1, e2, hrun, SV.den, pure_bind]
end
end Go.Gw

