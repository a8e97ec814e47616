/- The rule of W2 where every operation only makes memory: each value is known by a property that new memory leaves true. No program is named. -/
import Derived.Test.YtadiajlegajclaaW2
namespace Go.Proofs.Ytadiajlegajclaa
open Go.RowKit

def upd (γ : Nat → Value) (i : Nat) (v : Value) : Nat → Value := fun k => if k = i then v else γ k

/-- Value i is v, the world has only grown. -/
def Known (aF : (Nat → Value) → Act) (K : Nat → Value → World → Prop) (γ : Nat → Value) (i : Nat) (w : World) (a' : Act) (w' : World) : Prop :=
  ∃ v, a' = aF (upd γ i v) ∧ Mod (fun _ => False) w w' ∧ K i v w'
theorem known {aF : (Nat → Value) → Act} {K : Nat → Value → World → Prop} {γ : Nat → Value} {i : Nat} {w : World} {a' : Act} {w' : World} (v : Value) (h1 : a' = aF (upd γ i v)) (h2 : Mod (fun _ => False) w w') (h3 : K i v w') : Known aF K γ i w a' w' := ⟨v, h1, h2, h3⟩

def StepOkK (P : Program) (ops : Array Oper) (aF : (Nat → Value) → Act) (w0 : World) (K : Nat → Value → World → Prop) (i : Nat) (o : Oper) : Prop :=
  ∀ (γ : Nat → Value) (w : World), Mod (fun _ => False) w0 w → (∀ e ∈ o.after, Region.binds .any e = true → K e.on (γ e.on) w) →
    if Region.wanted o (yielded ops (aF γ).tmps) = true then o.wp P (aF γ) w (Known aF K γ i w) NoWay else Known aF K γ i w ((aF γ).put o.dst undef) w
def StepsFromK (P : Program) (ops : Array Oper) (aF : (Nat → Value) → Act) (w0 : World) (K : Nat → Value → World → Prop) : Nat → List Oper → Prop
  | _, [] => True
  | k, o :: l => StepOkK P ops aF w0 K k o ∧ StepsFromK P ops aF w0 K (k + 1) l

/-- Each listed value is known. -/
structure AllKnown (w0 : World) (K : Nat → Value → World → Prop) (L : Array Bool) (γ : Nat → Value) (w : World) : Prop where
  base : Mod (fun _ => False) w0 w
  all : ∀ i, L.getD i false = true → K i (γ i) w

theorem StepOkK.to {P : Program} {ops : Array Oper} {aF : (Nat → Value) → Act} {w0 : World} {K : Nat → Value → World → Prop} (hK : ∀ i v w w', Mod (fun _ => False) w w' → K i v w → K i v w') {i : Nat} {o : Oper} (h : StepOkK P ops aF w0 K i o) :
    StepOkG P ops aF (AllKnown w0 K) i o := by
  intro L γ w hun hw hC
  have h1 := h γ w hC.base (fun e he hb => hC.all _ (hw e he hb))
  have tr : ∀ a' w', Known aF K γ i w a' w' → Turned aF (AllKnown w0 K) (L.setIfInBounds i true) a' w' := by
    rintro a' w' ⟨v, e, hm, hk⟩
    refine turned (upd γ i v) e ⟨hC.base.trans hm (fun _ _ h => h), fun j hj => ?_⟩
    by_cases hji : j = i
    · subst hji
      simp only [upd, if_pos]
      exact hk
    · rw [getD_set_ne false (Ne.symm hji)] at hj
      simp only [upd, if_neg hji]
      exact hK j _ _ _ hm (hC.all j hj)
  split
  · rename_i hc
    rw [if_pos hc] at h1
    exact Oper.wp_mono tr h1
  · rename_i hc
    rw [if_neg hc] at h1
    exact tr _ _ h1
theorem StepsFromK.to {P : Program} {ops : Array Oper} {aF : (Nat → Value) → Act} {w0 : World} {K : Nat → Value → World → Prop} (hK : ∀ i v w w', Mod (fun _ => False) w w' → K i v w → K i v w') : ∀ {l : List Oper} {k : Nat}, StepsFromK P ops aF w0 K k l → StepsFromG P ops aF (AllKnown w0 K) k l
  | [], _, _ => trivial
  | _ :: _, _, ⟨h1, h2⟩ => ⟨StepOkK.to hK h1, StepsFromK.to hK h2⟩

theorem wp_region_known {P : Program} {l : List Oper} {id : Nat} {a : Act} {w : World} {Q : Exit → Act → World → Prop} (K : Nat → Value → World → Prop) (vs : (Nat → Value) → List Value) {aF : (Nat → Value) → Act} (hm : P.follows .mixedOrders = true) (hT : tidyB l.toArray = true)
    (hF : ∀ γ, putAll a l (vs γ) = aF γ) (hK : ∀ i v w w', Mod (fun _ => False) w w' → K i v w → K i v w') (hsteps : StepsFromK P l.toArray aF w.drew K 0 l) (hQ : ∀ γ w', Mod (fun _ => False) w w' → (∀ i, i < l.length → K i (γ i) w') → Q .normal (aF γ) w') :
    (Code.region id l.toArray true).wp P Q a w :=
  wp_region_ghost (fun _ => undef) vs (AllKnown w.drew K) hm hT hF ⟨Mod.refl _ _, fun i hi => by
      exfalso
      rw [Array.getD_eq_getD_getElem?, Array.getElem?_replicate] at hi
      split at hi <;> simp at hi⟩ (hsteps.to hK)
    (fun L γ w' hall hC => hQ γ w' (((Mod.refl _ w).drew).trans hC.base (fun _ _ h => h)) (fun i hi => hC.all i (hall i hi)))

end Go.Proofs.Ytadiajlegajclaa
