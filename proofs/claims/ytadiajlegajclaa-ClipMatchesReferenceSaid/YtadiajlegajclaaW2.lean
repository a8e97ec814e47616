/- The rule of W1 where some values (addresses of new blocks) are known only when they come up: the full frame hangs on a ghost. No program is named. -/
import Derived.Test.YtadiajlegajclaaW1
namespace Go.Proofs.Ytadiajlegajclaa
open Go.RowKit

section
variable {P : Program} {ops : Array Oper} {Γ : Type}

theorem FrameAt.turn {a0 aF a : Act} {listed : Array Bool} (h : FrameAt ops a0 aF listed a) (hs : listed.size = ops.size) {i : Nat} {o : Oper} (hi : ops[i]? = some o) (v : Value) :
    FrameAt ops a0 (aF.put o.dst v) (listed.setIfInBounds i true) (a.put o.dst v) := by
  have hlt := (Array.getElem?_eq_some_iff.1 hi).1
  cases hd : o.dst with
  | none =>
    have e : ∀ b : Act, b.put none v = b := fun b => rfl
    rw [e, e]
    refine ⟨h.defers, h.size, fun j oj d hj hjd hl => ?_, fun d hall => h.rest d fun j oj hj hjd => ?_⟩
    · by_cases hij : i = j
      · subst hij; rw [hi] at hj; cases hj; rw [hd] at hjd; cases hjd
      · rw [getD_set_ne false hij] at hl
        exact h.done j oj d hj hjd hl
    · have h1 := hall j oj hj hjd
      by_cases hij : i = j
      · subst hij; rw [hi] at hj; cases hj; rw [hd] at hjd; cases hjd
      · rw [getD_set_ne false hij] at h1; exact h1
  | some t =>
    have hput : ∀ (b : Act) (d : Tmp), (b.put (some t) v).tmps[d]? = if t = d then (if d < b.tmps.size then some v else none) else b.tmps[d]? := fun b d => by
      show (b.tmps.setIfInBounds t v)[d]? = _
      rw [Array.getElem?_setIfInBounds]
      by_cases e : t = d
      · subst e; simp
      · simp [e]
    refine ⟨h.defers, by simpa [Act.put] using h.size, fun j oj d hj hjd hl => ?_, fun d hall => ?_⟩
    · rw [hput a d, hput aF d]
      by_cases e : t = d
      · rw [if_pos e, if_pos e, h.size]
      · rw [if_neg e, if_neg e]
        have hij : i ≠ j := by
          rintro rfl
          rw [hi] at hj; cases hj; rw [hd] at hjd; injection hjd with hjd; exact e hjd
        rw [getD_set_ne false hij] at hl
        exact h.done j oj d hj hjd hl
    · have e : t ≠ d := by
        rintro rfl
        have := hall i o hi hd
        rw [Array.getD_eq_getD_getElem?, Array.getElem?_setIfInBounds, if_pos rfl, if_pos (by omega)] at this
        simp at this
      rw [hput a d, if_neg e]
      refine h.rest d fun j oj hj hjd => ?_
      have h1 := hall j oj hj hjd
      have hij : i ≠ j := by
        rintro rfl
        rw [hi] at hj; cases hj; rw [hd] at hjd; injection hjd with hjd; exact e hjd
      rw [getD_set_ne false hij] at h1
      exact h1

/-- The frame is full again, under some ghost. -/
def Turned (aF : Γ → Act) (C : Array Bool → Γ → World → Prop) (listed : Array Bool) (a' : Act) (w' : World) : Prop := ∃ γ', a' = aF γ' ∧ C listed γ' w'
theorem turned {aF : Γ → Act} {C : Array Bool → Γ → World → Prop} {listed : Array Bool} {a' : Act} {w' : World} (γ : Γ) (h1 : a' = aF γ) (h2 : C listed γ w') : Turned aF C listed a' w' := ⟨γ, h1, h2⟩

/-- Operation i does what it must, whenever it comes up; the ghost may be turned. -/
def StepOkG (P : Program) (ops : Array Oper) (aF : Γ → Act) (C : Array Bool → Γ → World → Prop) (i : Nat) (o : Oper) : Prop :=
  ∀ (listed : Array Bool) (γ : Γ) (w : World), listed.getD i true = false → (∀ e ∈ o.after, Region.binds .any e = true → listed.getD e.on false = true) → C listed γ w →
    if Region.wanted o (yielded ops (aF γ).tmps) = true then o.wp P (aF γ) w (Turned aF C (listed.setIfInBounds i true)) NoWay else Turned aF C (listed.setIfInBounds i true) ((aF γ).put o.dst undef) w

theorem wpOp_of_stepG {a0 a : Act} {aF : Γ → Act} {C : Array Bool → Γ → World → Prop} {listed : Array Bool} {γ : Γ} {w : World} {Q : Exit → Act → World → Prop} (hF : FrameAt ops a0 (aF γ) listed a) (hE : ∀ γ, FrameEnd ops a0 (aF γ)) (hT : tidyB ops = true) (hs : listed.size = ops.size)
    {i : Nat} {o : Oper} (hi : ops[i]? = some o) (hun : listed.getD i true = false) (hw : ∀ e ∈ o.after, Region.binds .any e = true → listed.getD e.on false = true) (hC : C listed γ w) (hstep : StepOkG P ops aF C i o)
    {K : Act → World → Prop} (hK : ∀ a' γ' w', FrameAt ops a0 (aF γ') (listed.setIfInBounds i true) a' → C (listed.setIfInBounds i true) γ' w' → K a' w') : wpOp P ops Q i K a w := by
  obtain ⟨he, hwa⟩ := hF.exec (hE γ) hT hi hw
  have h := hstep listed γ w hun hw hC
  unfold wpOp
  simp only [hi]
  rw [hwa]
  split at h
  · rename_i hwant
    rw [if_pos hwant]
    left
    unfold Oper.wp at h ⊢
    rw [he]
    generalize (execOp (aF γ).eval o).run P w = r at h
    have put : ∀ v w', (∃ γ', (aF γ).put o.dst v = aF γ' ∧ C (listed.setIfInBounds i true) γ' w') → K (a.put o.dst v) w' := fun v w' ⟨γ', h1, h2⟩ => hK _ γ' _ (by rw [← h1]; exact hF.turn hs hi v) h2
    cases r with
    | ok x w' =>
      cases x <;> simp only [Oper.upon] at h ⊢
      case value v => exact put v w' h
      case skip => exact put undef w' h
      case defer d =>
        exfalso
        obtain ⟨γ', h1, h2⟩ := h
        have e1 := congrArg (fun a : Act => a.defers.length) h1
        have e2 := congrArg List.length (hE γ).defers
        have e3 := congrArg List.length (hE γ').defers
        cases hd : o.dst <;> simp [Act.put, hd] at e1 <;> omega
      case enter f args =>
        refine Calls.mono h fun e w'' hp => ?_
        cases e with
        | returned v => exact put v w'' hp
        | panicked c => exact hp.elim
        | outgrown => obtain ⟨_, _, hf⟩ := hp; exact hf.elim
      case row row args => exact Rows.mono h fun v w'' hp => put v w'' hp
    | halt x w' =>
      cases x <;> simp only [Oper.upon] at h ⊢
      case panic v => exact (h : False).elim
  · rename_i hwant
    rw [if_neg hwant]
    obtain ⟨γ', h1, h2⟩ := h
    exact hK _ γ' _ (by rw [← h1]; exact hF.turn hs hi undef) h2

theorem wpAny_of_stepsG {a0 : Act} {aF : Γ → Act} {C : Array Bool → Γ → World → Prop} {Q : Exit → Act → World → Prop} (hE : ∀ γ, FrameEnd ops a0 (aF γ)) (hT : tidyB ops = true) (hsteps : ∀ i o, ops[i]? = some o → StepOkG P ops aF C i o)
    (hQ : ∀ listed γ w, (∀ i, i < ops.size → listed.getD i false = true) → C listed γ w → Q .normal (aF γ) w) :
    ∀ (fuel : Nat) (listed : Array Bool) (γ : Γ) (a : Act) (w : World), listed.size = ops.size → listed.toList.countP (!·) ≤ fuel → FrameAt ops a0 (aF γ) listed a → C listed γ w → wpAny P .any ops Q fuel listed a w
  | 0, listed, γ, a, w, hs, hc, hF, hC => by
    have hall : ∀ i, i < ops.size → listed.getD i false = true := by
      intro i hi
      have h2 : i < listed.size := by omega
      have h3 : listed.toList.countP (!·) = 0 := by omega
      have h4 := List.countP_eq_zero.1 h3 listed[i] (by simp)
      have h5 : listed[i] = true := by simpa using h4
      simp [h2, h5]
    refine ⟨?_, ?_⟩
    · apply List.eq_nil_iff_forall_not_mem.2
      intro i hi
      obtain ⟨hun, o, ho, _⟩ := mem_ready.1 hi
      have h1 := hall i (Array.getElem?_eq_some_iff.1 ho).1
      have h2 : i < listed.size := by have := (Array.getElem?_eq_some_iff.1 ho).1; omega
      simp [h2] at h1 hun
      rw [h1] at hun
      cases hun
    · rw [hF.final (hE γ) hall]
      exact hQ listed γ w hall hC
  | fuel + 1, listed, γ, a, w, hs, hc, hF, hC => by
    refine ⟨fun hr => ?_, fun i hi => ?_⟩
    · have hall := all_listed hT hs hr
      rw [hF.final (hE γ) hall]
      exact hQ listed γ w hall hC
    · obtain ⟨hun, o, ho, hw⟩ := mem_ready.1 hi
      refine wpOp_of_stepG hF hE hT hs ho hun hw hC (hsteps i o ho) fun a' γ' w' hF' hC' => ?_
      exact wpAny_of_stepsG hE hT hsteps hQ fuel _ γ' a' w' (by simpa using hs) (by have := unlisted_count hun; omega) hF' hC'

def StepsFromG (P : Program) (ops : Array Oper) (aF : Γ → Act) (C : Array Bool → Γ → World → Prop) : Nat → List Oper → Prop
  | _, [] => True
  | k, o :: l => StepOkG P ops aF C k o ∧ StepsFromG P ops aF C (k + 1) l
theorem StepsFromG.get {aF : Γ → Act} {C : Array Bool → Γ → World → Prop} : ∀ {l : List Oper} {k : Nat}, StepsFromG P ops aF C k l → ∀ i o, l[i]? = some o → StepOkG P ops aF C (k + i) o
  | [], _, _, _, _, h => by simp at h
  | x :: l, k, ⟨h1, _⟩, 0, o, h => by simp at h; subst h; exact h1
  | x :: l, k, ⟨_, h2⟩, i + 1, o, h => by
    have := StepsFromG.get h2 i o (by simpa using h)
    rwa [show k + 1 + i = k + (i + 1) by omega] at this
end

/-- The rule with a ghost: the values hang on γ. -/
theorem wp_region_ghost {P : Program} {l : List Oper} {id : Nat} {a : Act} {w : World} {Q : Exit → Act → World → Prop} {Γ : Type} (γ0 : Γ) (vs : Γ → List Value) {aF : Γ → Act} (C : Array Bool → Γ → World → Prop) (hm : P.follows .mixedOrders = true) (hT : tidyB l.toArray = true)
    (hF : ∀ γ, putAll a l (vs γ) = aF γ) (h0 : C (Array.replicate l.length false) γ0 w.drew) (hsteps : StepsFromG P l.toArray aF C 0 l) (hQ : ∀ listed γ w', (∀ i, i < l.length → listed.getD i false = true) → C listed γ w' → Q .normal (aF γ) w') :
    (Code.region id l.toArray true).wp P Q a w := by
  have hE : ∀ γ, FrameEnd l.toArray a (aF γ) := fun γ => by
    obtain ⟨h1, h2, h3⟩ := putAll_rest l (vs γ) a
    rw [hF γ] at h1 h2 h3
    exact ⟨h1.symm, h2.symm, fun d hd => h3 d fun o ho => by
      obtain ⟨i, hi⟩ := List.mem_iff_getElem?.1 ho
      exact hd i o (by simpa using hi)⟩
  refine wp_region_any hm ?_
  have hz : (Array.replicate l.toArray.size false).toList.countP (!·) ≤ l.toArray.size := by
    refine Nat.le_trans List.countP_le_length ?_
    simp
  refine wpAny_of_stepsG hE hT (fun i o ho => ?_) (fun listed γ w' hall hC => hQ listed γ w' (by simpa using hall) hC) _ _ γ0 a _ (by simp) hz ?_ (by simpa using h0)
  · have := StepsFromG.get hsteps i o (by simpa using ho)
    rwa [Nat.zero_add] at this
  · refine ⟨(hE γ0).defers, (hE γ0).size, fun i o d hi hd hl => ?_, fun d _ => rfl⟩
    exfalso
    rw [Array.getD_eq_getD_getElem?, Array.getElem?_replicate] at hl
    split at hl <;> simp at hl

/-- The frame is full again, and the world is of the class C. -/
def Still_ (aF : Act) (C : World → Prop) (a' : Act) (w' : World) : Prop := a' = aF ∧ C w'
theorem still {aF : Act} {C : World → Prop} {a' : Act} {w' : World} (h1 : a' = aF) (h2 : C w') : Still_ aF C a' w' := ⟨h1, h2⟩
def StepOkC (P : Program) (ops : Array Oper) (aF : Act) (C : World → Prop) (i : Nat) (o : Oper) : Prop :=
  ∀ (listed : Array Bool) (w : World), listed.getD i true = false → (∀ e ∈ o.after, Region.binds .any e = true → listed.getD e.on false = true) → C w →
    if Region.wanted o (yielded ops aF.tmps) = true then o.wp P aF w (Still_ aF C) NoWay else Still_ aF C (aF.put o.dst undef) w
def StepsFromC (P : Program) (ops : Array Oper) (aF : Act) (C : World → Prop) : Nat → List Oper → Prop
  | _, [] => True
  | k, o :: l => StepOkC P ops aF C k o ∧ StepsFromC P ops aF C (k + 1) l
theorem StepsFromC.to {P : Program} {ops : Array Oper} {aF : Act} {C : World → Prop} : ∀ {l : List Oper} {k : Nat}, StepsFromC P ops aF C k l → StepsFrom P ops aF (fun _ => C) k l
  | [], _, _ => trivial
  | _ :: _, _, ⟨h1, h2⟩ => ⟨fun listed w hun hw hC => h1 listed w hun hw hC, StepsFromC.to h2⟩
/-- The rule where the world only stays within a class. -/
theorem wp_region_stepsC {P : Program} {l : List Oper} {id : Nat} {a aF : Act} {w : World} {Q : Exit → Act → World → Prop} (vs : List Value) (C : World → Prop) (hm : P.follows .mixedOrders = true) (hT : tidyB l.toArray = true)
    (hF : putAll a l vs = aF) (h0 : C w.drew) (hsteps : StepsFromC P l.toArray aF C 0 l) (hQ : ∀ w', C w' → Q .normal aF w') : (Code.region id l.toArray true).wp P Q a w :=
  wp_region_steps vs (fun _ => C) hm hT hF h0 hsteps.to (fun _ w' _ hC => hQ w' hC)

/-- The rule where the class hangs on what has come up. -/
def StepOkL (P : Program) (ops : Array Oper) (aF : Act) (C : Array Bool → World → Prop) (i : Nat) (o : Oper) : Prop :=
  ∀ (listed : Array Bool) (w : World), listed.getD i true = false → (∀ e ∈ o.after, Region.binds .any e = true → listed.getD e.on false = true) → C listed w →
    if Region.wanted o (yielded ops aF.tmps) = true then o.wp P aF w (Still_ aF (C (listed.setIfInBounds i true))) NoWay else Still_ aF (C (listed.setIfInBounds i true)) (aF.put o.dst undef) w
def StepsFromL (P : Program) (ops : Array Oper) (aF : Act) (C : Array Bool → World → Prop) : Nat → List Oper → Prop
  | _, [] => True
  | k, o :: l => StepOkL P ops aF C k o ∧ StepsFromL P ops aF C (k + 1) l
theorem StepsFromL.to {P : Program} {ops : Array Oper} {aF : Act} {C : Array Bool → World → Prop} : ∀ {l : List Oper} {k : Nat}, StepsFromL P ops aF C k l → StepsFrom P ops aF C k l
  | [], _, _ => trivial
  | _ :: _, _, ⟨h1, h2⟩ => ⟨fun listed w hun hw hC => h1 listed w hun hw hC, StepsFromL.to h2⟩
theorem wp_region_stepsL {P : Program} {l : List Oper} {id : Nat} {a aF : Act} {w : World} {Q : Exit → Act → World → Prop} (vs : List Value) (C : Array Bool → World → Prop) (hm : P.follows .mixedOrders = true) (hT : tidyB l.toArray = true)
    (hF : putAll a l vs = aF) (h0 : C (Array.replicate l.length false) w.drew) (hsteps : StepsFromL P l.toArray aF C 0 l) (hQ : ∀ listed w', (∀ i, i < l.length → listed.getD i false = true) → C listed w' → Q .normal aF w') : (Code.region id l.toArray true).wp P Q a w :=
  wp_region_steps vs C hm hT hF h0 hsteps.to hQ
end Go.Proofs.Ytadiajlegajclaa
