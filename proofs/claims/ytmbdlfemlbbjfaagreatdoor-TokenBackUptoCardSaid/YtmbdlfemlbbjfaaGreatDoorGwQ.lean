/- A string's bytes as a slice. For any program. -/
import Derived.Test.YtmbdlfemlbbjfaaGreatDoorGwP
import Derived.Laws.IdiomStrings
set_option linter.unusedVariables false
set_option linter.unusedSimpArgs false
set_option linter.unnecessarySimpa false
namespace Go.Gw
open Go.RowKit

theorem zeroValue_of {P : Program} {t : TypeId} {z : Value} (h : (match P.info? t with | some i => i.zero | none => none) = some z) (w : World) : (zeroValue t).run P w = .ok z w := by
  cases hi : P.info? t with
  | none => rw [hi] at h; cases h
  | some i => rw [hi] at h; exact zeroValue_run hi h w

section
variable {P : Program} {N : Nat} {w0 : World} {F0 : Heap} {D : Own} {w : World} {F : Heap} {L L' M M' : List SP} {B B' : List (Option Box)} {ρ : Nat → Nat} {l : Env} {a : Act} {o : Oper} {ops : Array Oper} {lit : List Nat} {rest : List Oper} {Q : Exit → Act → World → Prop}

theorem Cx.toBytes {S T e : TypeId} {x : Operand} {s : Str} (h : Cx N w0 F0 D w F L B ρ l a) (hg : gd ops lit [] l o.guard = some .yes) (hd : fitsB N o.dst = true)
    (hop : o.op = .convert S T x) (hS : P.underlying S = some .string) (hT : elemB P T = some e) (he : P.underlying e = some (.int .u8)) (hx : ov l x = some (.v (.string ⟨⟨s⟩⟩)))
    (hK : ∀ F' A c w' a', Cx N w0 F0 D w' F' L B ρ (after l o.dst (SV.sl kByte s A c)) a' → wpList P ops Q rest a' w') : wpList P ops Q (o :: rest) a w := by
  have e1 : a.eval x = .string ⟨⟨s⟩⟩ := h.eval hx
  have hrun := run_bytes_of_string (P := P) w S T e ⟨⟨s⟩⟩ hS (elemB_under hT) he
  have hcap := grownCap_ge w s.length 0 e
  generalize hc : grownCap w s.length 0 e = cap at hcap
  have hsz : (⟨⟨s⟩⟩ : ByteArray).size = s.length := rfl
  rw [hsz, hc] at hrun
  have h1 := (h.st.drew 1).allocF (.cells (bytesRow ⟨⟨s⟩⟩ cap) e ((bytesRow ⟨⟨s⟩⟩ cap).size, (bytesRow ⟨⟨s⟩⟩ cap).size + 1))
  have hF : F w.heap.size = none := h.st.view.free (Nat.le_refl _)
  have h2 := h.world (Heap.join_le_left _ _) h1
  refine h.oneOp (s := SV.sl kByte s (some ⟨w.heap.size, 0, none⟩) cap) (ρ' := ρ) hg hd ?_ h2 ⟨hcap, .inr ⟨_, _, rfl, fun i b hi => ⟨[.int .u8 (b.toNat : Int)], rfl, fun j v hj => ?_⟩⟩⟩ rfl (fun a' h' => hK _ _ _ _ a' h')
  · unfold execOp; rw [hop]
    simp only [e1, Sem.run_bind, hrun, Result.andThen_ok, Sem.run_pure, SV.den, SV.sl, pure_bind]
    rfl
  · cases j with
    | zero =>
      cases hj
      have hobj : (F.join (Heap.one (w.drewN 1).heap.size (.cells (bytesRow ⟨⟨s⟩⟩ cap) e ((bytesRow ⟨⟨s⟩⟩ cap).size, (bytesRow ⟨⟨s⟩⟩ cap).size + 1)))) w.heap.size = some (.cells (bytesRow ⟨⟨s⟩⟩ cap) e ((bytesRow ⟨⟨s⟩⟩ cap).size, (bytesRow ⟨⟨s⟩⟩ cap).size + 1)) :=
        Heap.join_right (Heap.apart_one.2 hF) (Heap.one_self _ _)
      refine ⟨_, _, _, hobj, ?_⟩
      obtain ⟨hi1, rfl⟩ := List.getElem?_eq_some_iff.1 hi
      have := bytesRow_at ⟨⟨s⟩⟩ cap i (by simpa using hi1)
      simpa [kByte] using this
    | succ j => simp at hj
end
end Go.Gw

