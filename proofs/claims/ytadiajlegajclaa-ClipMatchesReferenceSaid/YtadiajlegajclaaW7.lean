/- A drawn region that appends two points to an element of a slice and stores it back. No program is named. -/
import Derived.Test.YtadiajlegajclaaW6
set_option linter.unusedVariables false
namespace Go.Proofs.Ytadiajlegajclaa
open Go.RowKit

/-- Operations 7 8 9 load, 10 makes the new elements' block (at γ.1), 11 appends (γ.2), 13 stores. -/
structure GrowC (wz : World) (cs : List Value) (Good Done : World → Value → Prop) (L : Array Bool) (γ : Nat × Value) (w' : World) : Prop where
  pre : L.getD 11 false = false → Mod (fun _ => False) wz w' ∧ (L.getD 10 false = true → Bk w' γ.1 24 cs)
  mid : L.getD 11 false = true → L.getD 13 false = false → Good w' γ.2
  fin : L.getD 13 false = true → Done w' γ.2
  o7 : L.getD 11 false = true → L.getD 7 false = true
  p8 : L.getD 10 false = true → L.getD 8 false = true
  p9 : L.getD 10 false = true → L.getD 9 false = true
  o10 : L.getD 11 false = true → L.getD 10 false = true
  o11 : L.getD 13 false = true → L.getD 11 false = true
section
variable {wz : World} {cs : List Value} {Good Done : World → Value → Prop} {L : Array Bool} {γ : Nat × Value} {w' : World}
theorem GrowC.start (wz : World) (cs : List Value) (Good Done : World → Value → Prop) (n : Nat) (γ : Nat × Value) : GrowC wz cs Good Done (Array.replicate n false) γ wz.drew := by
  have hno : ∀ i : Nat, (Array.replicate n false).getD i false = true → False := fun i hl => by
    rw [Array.getD_eq_getD_getElem?, Array.getElem?_replicate] at hl
    split at hl <;> simp at hl
  exact ⟨fun _ => ⟨(Mod.refl _ _).drew, fun h => (hno _ h).elim⟩, fun h => (hno _ h).elim, fun h => (hno _ h).elim, fun h => (hno _ h).elim, fun h => (hno _ h).elim, fun h => (hno _ h).elim, fun h => (hno _ h).elim, fun h => (hno _ h).elim⟩
theorem GrowC.skip (h : GrowC wz cs Good Done L γ w') {i : Nat} (h1 : i ≠ 10) (h2 : i ≠ 11) (h3 : i ≠ 13) : GrowC wz cs Good Done (L.setIfInBounds i true) γ w' := by
  refine ⟨?_, ?_, ?_, ?_, ?_, ?_, ?_, ?_⟩
  · rw [getD_set_ne false h2, getD_set_ne false h1]; exact h.pre
  · rw [getD_set_ne false h2, getD_set_ne false h3]; exact h.mid
  · rw [getD_set_ne false h3]; exact h.fin
  · rw [getD_set_ne false h2]; exact fun e => getD_set_true (h.o7 e)
  · rw [getD_set_ne false h1]; exact fun e => getD_set_true (h.p8 e)
  · rw [getD_set_ne false h1]; exact fun e => getD_set_true (h.p9 e)
  · rw [getD_set_ne false h2]; exact fun e => getD_set_true (h.o10 e)
  · rw [getD_set_ne false h3]; exact fun e => getD_set_true (h.o11 e)
theorem GrowC.un11 (h : GrowC wz cs Good Done L γ w') {i : Nat} (hi : L.getD 11 false = true → L.getD i false = true) (hu : L.getD i true = false) : L.getD 11 false = false := by
  cases e : L.getD 11 false with
  | false => rfl
  | true => have := hi e; rw [getD_un hu] at this; cases this
theorem GrowC.new (h : GrowC wz cs Good Done L γ w') (hu : L.getD 10 true = false) (h8 : L.getD 8 false = true) (h9 : L.getD 9 false = true) : GrowC wz cs Good Done (L.setIfInBounds 10 true) (w'.heap.size, γ.2) (w'.alloc (.cells cs.toArray 24)) := by
  have h11 := h.un11 h.o10 hu
  have h13 : L.getD 13 false = false := by
    cases e : L.getD 13 false with
    | false => rfl
    | true => have := h.o11 e; rw [h11] at this; cases this
  refine ⟨?_, ?_, ?_, ?_, ?_, ?_, ?_, ?_⟩
  · rw [getD_set_ne false (by decide)]; exact fun e => ⟨(h.pre e).1.alloc _, fun _ => Bk.new _ _ _⟩
  · rw [getD_set_ne false (by decide), h11]; exact fun e => by cases e
  · rw [getD_set_ne false (by decide), h13]; exact fun e => by cases e
  · rw [getD_set_ne false (by decide), h11]; exact fun e => by cases e
  · exact fun _ => getD_set_true h8
  · exact fun _ => getD_set_true h9
  · rw [getD_set_ne false (by decide), h11]; exact fun e => by cases e
  · rw [getD_set_ne false (by decide), h13]; exact fun e => by cases e
theorem GrowC.app (h : GrowC wz cs Good Done L γ w') (hu : L.getD 11 true = false) (h7 : L.getD 7 false = true) (h10 : L.getD 10 false = true) {w2 : World} {v : Value} (hg : Good w2 v) : GrowC wz cs Good Done (L.setIfInBounds 11 true) (γ.1, v) w2 := by
  have h13 : L.getD 13 false = false := by
    cases e : L.getD 13 false with
    | false => rfl
    | true => have := h.o11 e; rw [getD_un hu] at this; cases this
  refine ⟨fun e => (by rw [getD_put hu] at e; cases e), fun _ _ => hg, ?_, fun _ => getD_set_true h7, ?_, ?_, fun _ => getD_set_true h10, ?_⟩
  · rw [getD_set_ne false (by decide), h13]; exact fun e => by cases e
  · rw [getD_set_ne false (by decide)]; exact fun e => getD_set_true (h.p8 e)
  · rw [getD_set_ne false (by decide)]; exact fun e => getD_set_true (h.p9 e)
  · rw [getD_set_ne false (by decide), h13]; exact fun e => by cases e
theorem GrowC.store (h : GrowC wz cs Good Done L γ w') (hu : L.getD 13 true = false) (h11 : L.getD 11 false = true) {w2 : World} (hd : Done w2 γ.2) : GrowC wz cs Good Done (L.setIfInBounds 13 true) γ w2 := by
  refine ⟨?_, fun _ e => (by rw [getD_put hu] at e; cases e), fun _ => hd, ?_, ?_, ?_, ?_, ?_⟩
  · rw [getD_set_ne false (by decide), h11]; exact fun e => by cases e
  · rw [getD_set_ne false (by decide)]; exact fun e => getD_set_true (h.o7 e)
  · rw [getD_set_ne false (by decide)]; exact fun e => getD_set_true (h.p8 e)
  · rw [getD_set_ne false (by decide)]; exact fun e => getD_set_true (h.p9 e)
  · rw [getD_set_ne false (by decide)]; exact fun e => getD_set_true (h.o10 e)
  · exact fun _ => getD_set_true h11
end
end Go.Proofs.Ytadiajlegajclaa
