/- A region that reads alone, apart from its last operation: what it leaves in its slots does not matter but for what is known of them. No program is named. -/
import Derived.Test.YtadiajlegajclaaL2
namespace Go.Proofs.Ytadiajlegajclaa
open Go.RowKit

section
variable {P : Program} {ops : Array Oper} {w : World}
theorem still_put {o : Oper} {a : Act} {K : Act → Prop} (h : o.still P a w K) : o.still P a w (fun a' => K a' ∧ ∃ v, a' = a.put o.dst v) := by
  unfold Oper.still at *
  generalize (execOp a.eval o).run P w = r at *
  cases r with
  | ok n w' =>
    cases n <;> simp only [Oper.stillUpon] at h ⊢
    case enter f args => obtain ⟨h1, v, hc, hn⟩ := h; exact ⟨h1, v, hc, hn, _, rfl⟩
    case value v => exact ⟨h.1, h.2, _, rfl⟩
    case skip => exact ⟨h.1, h.2, _, rfl⟩
  | halt x w' => simp only [Oper.stillUpon] at h
theorem wpStill_mono {Q Q' : Act → Prop} (hQ : ∀ a, Q a → Q' a) : ∀ (l : List Oper) (a : Act), wpStill P ops w Q l a → wpStill P ops w Q' l a
  | [], a, h => hQ a h
  | o :: l, a, h => by
    unfold wpStill at h ⊢
    split at h
    · rename_i hw
      rw [if_pos hw]
      exact Oper.still_mono (fun a' => wpStill_mono hQ l a') h
    · rename_i hw
      rw [if_neg hw]
      exact wpStill_mono hQ l _ h
theorem wpStill_put {Q : Act → Prop} : ∀ (l : List Oper) (a : Act), wpStill P ops w Q l a → wpStill P ops w (fun a' => Q a' ∧ ∃ vs, vs.length = l.length ∧ a' = putAll a l vs) l a
  | [], a, h => ⟨h, [], rfl, rfl⟩
  | o :: l, a, h => by
    unfold wpStill at h ⊢
    split at h
    · rename_i hw
      rw [if_pos hw]
      refine Oper.still_mono ?_ (still_put h)
      rintro a' ⟨h1, v, rfl⟩
      refine wpStill_mono ?_ l _ (wpStill_put l _ h1)
      rintro a2 ⟨h2, vs, hl, rfl⟩
      exact ⟨h2, v :: vs, by simp [hl], rfl⟩
    · rename_i hw
      rw [if_neg hw]
      refine wpStill_mono ?_ l _ (wpStill_put l _ h)
      rintro a2 ⟨h2, vs, hl, rfl⟩
      exact ⟨h2, undef :: vs, by simp [hl], rfl⟩
end

/-- The first n operations only read; of what they leave, R alone is known. -/
theorem wp_region_flag {P : Program} {id : Nat} {Q : Exit → Act → World → Prop} {a : Act} {w : World} {l : List Oper} (n : Nat) (R : Act → Prop) (hm : P.follows .mixedOrders = true) (hB : Region.lexTailB .any l.toArray n = true)
    (h : wpStill P l.toArray w.drew R (l.take n) a)
    (hq : ∀ vs, vs.length = (l.take n).length → R (putAll a (l.take n) vs) → wpList P l.toArray Q (l.drop n) (putAll a (l.take n) vs) w.drew) : (Code.region id l.toArray true).wp P Q a w :=
  wp_region_still_tail n hm hB (wpStill_mono (fun a' ⟨h1, vs, hl, e⟩ => by subst e; exact hq vs hl h1) _ _ (wpStill_put _ _ h))

/-- A region with one late slot (written by its last operation j, after all others; first looked at by operation 0): γ is what it holds. -/
structure LateC (j : Nat) (w0 : World) (old new : Value) (L : Array Bool) (γ : Value) (w' : World) : Prop where
  base : Mod (fun _ => False) w0 w'
  q : L.getD j false = false → γ = old
  r : L.getD j false = true → γ = new
  o : L.getD j false = true → L.getD 0 false = true
section
variable {j : Nat} {w0 : World} {old new : Value} {L : Array Bool} {γ : Value} {w' : World}
theorem LateC.skip (h : LateC j w0 old new L γ w') {i : Nat} (hi : i ≠ j) {w2 : World} (hm : Mod (fun _ => False) w' w2) : LateC j w0 old new (L.setIfInBounds i true) γ w2 := by
  refine ⟨h.base.trans hm (fun _ _ h => h), ?_, ?_, ?_⟩
  · rw [getD_set_ne false hi]; exact h.q
  · rw [getD_set_ne false hi]; exact h.r
  · rw [getD_set_ne false hi]; exact fun e => getD_set_true (h.o e)
theorem LateC.none (h : LateC j w0 old new L γ w') (hu : L.getD 0 true = false) : γ = old := by
  cases e : L.getD j false with
  | false => exact h.q e
  | true => have := h.o e; rw [getD_un hu] at this; cases this
theorem LateC.last (h : LateC j w0 old new L γ w') (hu : L.getD j true = false) (h0 : L.getD 0 false = true) : LateC j w0 old new (L.setIfInBounds j true) new w' :=
  ⟨h.base, fun e => (by rw [getD_put hu] at e; cases e), fun _ => rfl, fun _ => getD_set_true h0⟩
end
/-- What follows a region is walked once, whatever the region leaves in its other slots. -/
theorem wp_merge {P : Program} {id : Nat} {Q : Exit → Act → World → Prop} {a : Act} {w : World} {l : List Oper} (v : Value) (C : World → Prop)
    (hrest : ∀ vs w', vs.length + 1 = l.length → C w' → Q .normal (putAll a l (vs ++ [v])) w')
    (hreg : ∀ Q' : Exit → Act → World → Prop, (∀ vs w', vs.length + 1 = l.length → C w' → Q' .normal (putAll a l (vs ++ [v])) w') → (Code.region id l.toArray true).wp P Q' a w) : (Code.region id l.toArray true).wp P Q a w := hreg Q hrest
theorem list9 {α : Type} : ∀ {l : List α}, l.length = 9 → ∃ a b c d e f g h i, l = [a, b, c, d, e, f, g, h, i]
  | [a, b, c, d, e, f, g, h, i], _ => ⟨a, b, c, d, e, f, g, h, i, rfl⟩
theorem list8 {α : Type} : ∀ {l : List α}, l.length = 8 → ∃ a b c d e f g h, l = [a, b, c, d, e, f, g, h]
  | [a, b, c, d, e, f, g, h], _ => ⟨a, b, c, d, e, f, g, h, rfl⟩
theorem list12 {α : Type} : ∀ {l : List α}, l.length = 12 → ∃ a b c d e f g h i j k m, l = [a, b, c, d, e, f, g, h, i, j, k, m]
  | [a, b, c, d, e, f, g, h, i, j, k, m], _ => ⟨a, b, c, d, e, f, g, h, i, j, k, m, rfl⟩
end Go.Proofs.Ytadiajlegajclaa
