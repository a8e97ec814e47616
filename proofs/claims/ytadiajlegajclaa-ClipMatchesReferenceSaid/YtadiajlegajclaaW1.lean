/- A region that draws its order: one obligation for each operation, under an invariant on the world that may name which operations have come up. No program is named. -/
import Derived.Test.YtadiajlegajclaaW0
import Derived.Orders
namespace Go.Proofs.Ytadiajlegajclaa
open Go.RowKit

/-- What one pass over the numbers of a region must find: no select; every slot is written once; who looks at a slot waits for who writes it; an operation waits for earlier ones alone. -/
def tidyB (ops : Array Oper) : Bool :=
  Region.noSelect ops && (List.range ops.size).all fun i => match ops[i]? with
    | none => true
    | some o =>
      (o.after.all fun e => !Region.binds .any e || decide (e.on < i)) &&
      (List.range ops.size).all fun j => match ops[j]? with
        | none => true
        | some oj => match oj.dst with
          | none => true
          | some d => (i == j || !(o.dst == some d)) && (!(o.looksAt ops).contains d || o.after.any fun e => Region.binds .any e && e.on == j)

section
variable {P : Program} {ops : Array Oper}

theorem tidy_on (h : tidyB ops = true) {i : Nat} {o : Oper} (hi : ops[i]? = some o) : (∀ e ∈ o.after, Region.binds .any e = true → e.on < i) ∧
    ∀ (j : Nat) (oj : Oper) (d : Tmp), ops[j]? = some oj → oj.dst = some d → (i ≠ j → o.dst ≠ some d) ∧ (d ∈ o.looksAt ops → ∃ e ∈ o.after, Region.binds .any e = true ∧ e.on = j) := by
  unfold tidyB at h
  rw [Bool.and_eq_true] at h
  have h1 := List.all_eq_true.1 h.2 i (List.mem_range.2 (Array.getElem?_eq_some_iff.1 hi).1)
  rw [hi] at h1
  simp only [Bool.and_eq_true] at h1
  refine ⟨fun e he hb => ?_, fun j oj d hj hd => ?_⟩
  · have h2 := (Array.all_eq_true_iff_forall_mem.1 h1.1) e he
    simpa [hb] using h2
  · have h2 := List.all_eq_true.1 h1.2 j (List.mem_range.2 (Array.getElem?_eq_some_iff.1 hj).1)
    rw [hj] at h2
    simp only [hd, Bool.and_eq_true, Bool.or_eq_true, beq_iff_eq, Bool.not_eq_true'] at h2
    refine ⟨fun hne he => ?_, fun hl => ?_⟩
    · rcases h2.1 with h3 | h3
      · exact hne h3
      · rw [he] at h3; simp at h3
    · rcases h2.2 with h3 | h3
      · rw [List.contains_eq_mem, decide_eq_false_iff_not] at h3; exact absurd hl h3
      · rw [Array.any_eq_true'] at h3
        obtain ⟨e, he, h4⟩ := h3
        simp only [Bool.and_eq_true, beq_iff_eq] at h4
        exact ⟨e, he, h4.1, h4.2⟩

/-- The frame a while the listed operations have come up: their slots are aF's, the others' are a0's. -/
structure FrameAt (ops : Array Oper) (a0 aF : Act) (listed : Array Bool) (a : Act) : Prop where
  defers : a.defers = aF.defers
  size : a.tmps.size = aF.tmps.size
  done : ∀ (i : Nat) (o : Oper) (d : Tmp), ops[i]? = some o → o.dst = some d → listed.getD i false = true → a.tmps[d]? = aF.tmps[d]?
  rest : ∀ d : Tmp, (∀ (i : Nat) (o : Oper), ops[i]? = some o → o.dst = some d → listed.getD i false = false) → a.tmps[d]? = a0.tmps[d]?

/-- aF is a0 but for the slots that the region writes. -/
structure FrameEnd (ops : Array Oper) (a0 aF : Act) : Prop where
  defers : a0.defers = aF.defers
  size : a0.tmps.size = aF.tmps.size
  rest : ∀ d : Tmp, (∀ (i : Nat) (o : Oper), ops[i]? = some o → o.dst ≠ some d) → aF.tmps[d]? = a0.tmps[d]?

theorem FrameAt.slot {a0 aF a : Act} {listed : Array Bool} (h : FrameAt ops a0 aF listed a) (hE : FrameEnd ops a0 aF) {t : Tmp} (ht : ∀ (j : Nat) (oj : Oper), ops[j]? = some oj → oj.dst = some t → listed.getD j false = true) : a.tmps[t]? = aF.tmps[t]? := by
  by_cases hex : ∃ (j : Nat) (oj : Oper), ops[j]? = some oj ∧ oj.dst = some t
  · obtain ⟨j, oj, hj, hd⟩ := hex
    exact h.done j oj t hj hd (ht j oj hj hd)
  · have hn : ∀ (j : Nat) (oj : Oper), ops[j]? = some oj → oj.dst ≠ some t := fun j oj hj hd => hex ⟨j, oj, hj, hd⟩
    rw [h.rest t (fun j oj hj hd => absurd hd (hn j oj hj)), hE.rest t hn]

theorem FrameAt.looks {a0 aF a : Act} {listed : Array Bool} (h : FrameAt ops a0 aF listed a) (hE : FrameEnd ops a0 aF) (hT : tidyB ops = true) {i : Nat} {o : Oper} (hi : ops[i]? = some o)
    (hw : ∀ e ∈ o.after, Region.binds .any e = true → listed.getD e.on false = true) {t : Tmp} (ht : t ∈ o.looksAt ops) : a.tmps[t]? = aF.tmps[t]? :=
  h.slot hE fun j oj hj hd => by
    obtain ⟨e, he, hb, hon⟩ := ((tidy_on hT hi).2 j oj t hj hd).2 ht
    rw [← hon]
    exact hw e he hb

theorem FrameAt.exec {a0 aF a : Act} {listed : Array Bool} (h : FrameAt ops a0 aF listed a) (hE : FrameEnd ops a0 aF) (hT : tidyB ops = true) {i : Nat} {o : Oper} (hi : ops[i]? = some o)
    (hw : ∀ e ∈ o.after, Region.binds .any e = true → listed.getD e.on false = true) : execOp a.eval o = execOp aF.eval o ∧ Region.wanted o (yielded ops a.tmps) = Region.wanted o (yielded ops aF.tmps) := by
  have hsel : Region.noSelect ops = true := by
    unfold tidyB at hT
    rw [Bool.and_eq_true] at hT
    exact hT.1
  refine ⟨execOp_congr o (fun cs b => Region.noSelect_spec hsel i o cs b hi) fun x hx => ?_, ?_⟩
  · cases x with
    | tmp t =>
      have := h.looks hE hT hi hw (t := t) (List.mem_append_left _ (List.mem_filterMap.2 ⟨.tmp t, by simpa using hx, rfl⟩))
      simp only [Act.eval, Array.getD_eq_getD_getElem?, this]
    | _ => rfl
  · unfold Region.wanted
    cases hg : o.guard with
    | none => rfl
    | some g =>
      obtain ⟨j, want⟩ := g
      have : yielded ops a.tmps j = yielded ops aF.tmps j := by
        unfold yielded
        cases hj : (ops[j]?).bind (·.dst) with
        | none => rfl
        | some d =>
          have hl : d ∈ o.looksAt ops := by
            refine List.mem_append_right _ ?_
            rw [hg]
            simp [hj]
          have e := h.looks hE hT hi hw hl
          simp only [Option.bind_some, e]
      simp only [this]

theorem put_is {aF : Act} {d : Tmp} {v : Value} (h : aF.put (some d) v = aF) : (if d < aF.tmps.size then some v else none) = aF.tmps[d]? := by
  have := congrArg (fun a : Act => a.tmps[d]?) h
  simp only [Act.put] at this
  rw [← this, Array.getElem?_setIfInBounds]
  simp

theorem FrameAt.step {a0 aF a : Act} {listed : Array Bool} (h : FrameAt ops a0 aF listed a) (hs : listed.size = ops.size) {i : Nat} {o : Oper} (hi : ops[i]? = some o) {v : Value}
    (hv : aF.put o.dst v = aF) : FrameAt ops a0 aF (listed.setIfInBounds i true) (a.put o.dst v) := by
  have hlt := (Array.getElem?_eq_some_iff.1 hi).1
  cases hd : o.dst with
  | none =>
    have e : a.put none v = a := rfl
    rw [e]
    refine ⟨h.defers, h.size, fun j oj d hj hjd hl => ?_, fun d hall => h.rest d fun j oj hj hjd => ?_⟩
    · by_cases hij : i = j
      · subst hij; rw [hi] at hj; cases hj; rw [hd] at hjd; cases hjd
      · rw [getD_set_ne false hij] at hl
        exact h.done j oj d hj hjd hl
    · have h1 := hall j oj hj hjd
      by_cases hij : i = j
      · subst hij; rw [hi] at hj; cases hj; rw [hd] at hjd; cases hjd
      · rw [getD_set_ne false hij] at h1; exact h1
  | some t =>
    rw [hd] at hv
    have hput : ∀ d : Tmp, (a.put (some t) v).tmps[d]? = if t = d then (if d < a.tmps.size then some v else none) else a.tmps[d]? := fun d => by
      show (a.tmps.setIfInBounds t v)[d]? = _
      rw [Array.getElem?_setIfInBounds]
      by_cases e : t = d
      · subst e; simp
      · simp [e]
    refine ⟨h.defers, by simpa [Act.put] using h.size, fun j oj d hj hjd hl => ?_, fun d hall => ?_⟩
    · rw [hput d]
      by_cases e : t = d
      · subst e
        rw [if_pos rfl, h.size]
        exact put_is hv
      · rw [if_neg e]
        have hij : i ≠ j := by
          rintro rfl
          rw [hi] at hj; cases hj; rw [hd] at hjd; injection hjd with hjd; exact e hjd
        rw [getD_set_ne false hij] at hl
        exact h.done j oj d hj hjd hl
    · have e : t ≠ d := by
        rintro rfl
        have := hall i o hi hd
        rw [Array.getD_eq_getD_getElem?, Array.getElem?_setIfInBounds, if_pos rfl, if_pos (by omega)] at this
        simp at this
      rw [hput d, if_neg e]
      refine h.rest d fun j oj hj hjd => ?_
      have h1 := hall j oj hj hjd
      have hij : i ≠ j := by
        rintro rfl
        rw [hi] at hj; cases hj; rw [hd] at hjd; injection hjd with hjd; exact e hjd
      rw [getD_set_ne false hij] at h1
      exact h1

def NoWay : Exit → Act → World → Prop := fun _ _ _ => False

/-- Operation i does what it must, whenever it comes up. -/
def StepOk (P : Program) (ops : Array Oper) (aF : Act) (C : Array Bool → World → Prop) (i : Nat) (o : Oper) : Prop :=
  ∀ (listed : Array Bool) (w : World), listed.getD i true = false → (∀ e ∈ o.after, Region.binds .any e = true → listed.getD e.on false = true) → C listed w →
    if Region.wanted o (yielded ops aF.tmps) = true then o.wp P aF w (fun a' w' => a' = aF ∧ C (listed.setIfInBounds i true) w') NoWay else aF.put o.dst undef = aF ∧ C (listed.setIfInBounds i true) w

theorem wpOp_of_step {a0 aF a : Act} {C : Array Bool → World → Prop} {listed : Array Bool} {w : World} {Q : Exit → Act → World → Prop} (hF : FrameAt ops a0 aF listed a) (hE : FrameEnd ops a0 aF) (hT : tidyB ops = true) (hs : listed.size = ops.size)
    {i : Nat} {o : Oper} (hi : ops[i]? = some o) (hun : listed.getD i true = false) (hw : ∀ e ∈ o.after, Region.binds .any e = true → listed.getD e.on false = true) (hC : C listed w) (hstep : StepOk P ops aF C i o)
    {K : Act → World → Prop} (hK : ∀ a' w', FrameAt ops a0 aF (listed.setIfInBounds i true) a' → C (listed.setIfInBounds i true) w' → K a' w') : wpOp P ops Q i K a w := by
  obtain ⟨he, hwa⟩ := hF.exec hE hT hi hw
  have h := hstep listed w hun hw hC
  unfold wpOp
  simp only [hi]
  rw [hwa]
  split at h
  · rename_i hwant
    rw [if_pos hwant]
    left
    unfold Oper.wp at h ⊢
    rw [he]
    generalize (execOp aF.eval o).run P w = r at h
    have put : ∀ v w', aF.put o.dst v = aF ∧ C (listed.setIfInBounds i true) w' → K (a.put o.dst v) w' := fun v w' ⟨h1, h2⟩ => hK _ _ (hF.step hs hi h1) h2
    cases r with
    | ok x w' =>
      cases x <;> simp only [Oper.upon] at h ⊢
      case value v => exact put v w' h
      case skip => exact put undef w' h
      case defer d =>
        exfalso
        have h2 := congrArg (fun a : Act => a.defers.length) h.1
        cases hd : o.dst <;> simp [Act.put, hd] at h2
      case enter f args =>
        refine Calls.mono h fun e w'' hp => ?_
        cases e with
        | returned v => exact put v w'' hp
        | panicked c => exact hp.elim
        | outgrown => obtain ⟨_, _, hf⟩ := hp; exact hf.elim
      case row row args => exact Rows.mono h fun v w'' hp => put v w'' hp
    | halt x w' =>
      cases x <;> simp only [Oper.upon] at h ⊢
      case panic v => exact (h : False).elim
  · rename_i hwant
    rw [if_neg hwant]
    exact hK _ _ (hF.step hs hi h.1) h.2

theorem unlisted_count {listed : Array Bool} {i : Nat} (hi : listed.getD i true = false) : (listed.setIfInBounds i true).toList.countP (!·) + 1 = listed.toList.countP (!·) := by
  have hlt : i < listed.size := by
    rcases Nat.lt_or_ge i listed.size with h | h
    · exact h
    · rw [Array.getD_eq_getD_getElem?, Array.getElem?_eq_none h] at hi; cases hi
  have hv : listed[i] = false := by simpa [Array.getD_eq_getD_getElem?, hlt] using hi
  have hl : i < listed.toList.length := by simpa using hlt
  rw [Array.toList_setIfInBounds, List.countP_set hl]
  have h1 : listed.toList[i] = false := by simpa using hv
  have h2 : 0 < listed.toList.countP (!·) := List.countP_pos_iff.2 ⟨false, by rw [← h1]; exact List.getElem_mem hl, rfl⟩
  rw [h1]
  show List.countP (!·) listed.toList - (if (!false) = true then 1 else 0) + (if (!true) = true then 1 else 0) + 1 = _
  simp only [Bool.not_false, Bool.not_true, if_true, Bool.false_eq_true, if_false]
  omega

theorem all_listed (hT : tidyB ops = true) {listed : Array Bool} (hs : listed.size = ops.size) (hr : Region.ready .any ops listed = []) : ∀ i, i < ops.size → listed.getD i false = true := by
  intro i
  induction i using Nat.strongRecOn with
  | _ i ih =>
    intro hi
    cases hl : listed.getD i false with
    | true => rfl
    | false =>
      exfalso
      have hmem : i ∈ Region.ready .any ops listed := by
        rw [mem_ready]
        refine ⟨?_, ops[i], Array.getElem?_eq_getElem hi, fun e he hb => ?_⟩
        · have h2 : i < listed.size := by omega
          simp [h2] at hl ⊢
          exact hl
        · have h3 := (tidy_on hT (Array.getElem?_eq_getElem hi)).1 e he hb
          exact ih e.on h3 (by omega)
      rw [hr] at hmem
      cases hmem

theorem FrameAt.final {a0 aF a : Act} {listed : Array Bool} (h : FrameAt ops a0 aF listed a) (hE : FrameEnd ops a0 aF) (hall : ∀ i, i < ops.size → listed.getD i false = true) : a = aF := by
  have ht : a.tmps = aF.tmps := by
    apply Array.ext_getElem?
    intro d
    exact h.slot hE fun j oj hj _ => hall j (Array.getElem?_eq_some_iff.1 hj).1
  cases a; cases aF
  simp only at ht
  have := h.defers
  simp only at this
  subst ht this
  rfl

theorem wpAny_of_steps {a0 aF : Act} {C : Array Bool → World → Prop} {Q : Exit → Act → World → Prop} (hE : FrameEnd ops a0 aF) (hT : tidyB ops = true) (hsteps : ∀ i o, ops[i]? = some o → StepOk P ops aF C i o)
    (hQ : ∀ listed w, (∀ i, i < ops.size → listed.getD i false = true) → C listed w → Q .normal aF w) :
    ∀ (fuel : Nat) (listed : Array Bool) (a : Act) (w : World), listed.size = ops.size → listed.toList.countP (!·) ≤ fuel → FrameAt ops a0 aF listed a → C listed w → wpAny P .any ops Q fuel listed a w
  | 0, listed, a, w, hs, hc, hF, hC => by
    have hall : ∀ i, i < ops.size → listed.getD i false = true := by
      intro i hi
      have h2 : i < listed.size := by omega
      have h3 : listed.toList.countP (!·) = 0 := by omega
      have h4 := List.countP_eq_zero.1 h3 listed[i] (by simp)
      have h5 : listed[i] = true := by simpa using h4
      simp [h2, h5]
    refine ⟨?_, ?_⟩
    · apply List.eq_nil_iff_forall_not_mem.2
      intro i hi
      obtain ⟨hun, o, ho, _⟩ := mem_ready.1 hi
      have h1 := hall i (Array.getElem?_eq_some_iff.1 ho).1
      have h2 : i < listed.size := by have := (Array.getElem?_eq_some_iff.1 ho).1; omega
      simp [h2] at h1 hun
      rw [h1] at hun
      cases hun
    · rw [hF.final hE hall]
      exact hQ listed w hall hC
  | fuel + 1, listed, a, w, hs, hc, hF, hC => by
    refine ⟨fun hr => ?_, fun i hi => ?_⟩
    · have hall := all_listed hT hs hr
      rw [hF.final hE hall]
      exact hQ listed w hall hC
    · obtain ⟨hun, o, ho, hw⟩ := mem_ready.1 hi
      refine wpOp_of_step hF hE hT hs ho hun hw hC (hsteps i o ho) fun a' w' hF' hC' => ?_
      exact wpAny_of_steps hE hT hsteps hQ fuel _ a' w' (by simpa using hs) (by have := unlisted_count hun; omega) hF' hC'

/-- One statement for each operation of the list, numbered from k on. -/
def StepsFrom (P : Program) (ops : Array Oper) (aF : Act) (C : Array Bool → World → Prop) : Nat → List Oper → Prop
  | _, [] => True
  | k, o :: l => StepOk P ops aF C k o ∧ StepsFrom P ops aF C (k + 1) l
theorem StepsFrom.get {aF : Act} {C : Array Bool → World → Prop} : ∀ {l : List Oper} {k : Nat}, StepsFrom P ops aF C k l → ∀ i o, l[i]? = some o → StepOk P ops aF C (k + i) o
  | [], _, _, _, _, h => by simp at h
  | x :: l, k, ⟨h1, _⟩, 0, o, h => by simp at h; subst h; exact h1
  | x :: l, k, ⟨_, h2⟩, i + 1, o, h => by
    have := StepsFrom.get h2 i o (by simpa using h)
    rwa [show k + 1 + i = k + (i + 1) by omega] at this
end

theorem step_no {c : Bool} {A B : Prop} (h : c = false) (hB : B) : if c = true then A else B := by rw [h]; exact hB
theorem step_yes {c : Bool} {A B : Prop} (h : c = true) (hA : A) : if c = true then A else B := by rw [if_pos h]; exact hA

/-- The region's slots, filled in the order of the text. -/
def putAll (a : Act) : List Oper → List Value → Act
  | o :: l, v :: vs => putAll (a.put o.dst v) l vs
  | _, _ => a

theorem putAll_rest : ∀ (l : List Oper) (vs : List Value) (a : Act), (putAll a l vs).defers = a.defers ∧ (putAll a l vs).tmps.size = a.tmps.size ∧ ∀ d : Tmp, (∀ o ∈ l, o.dst ≠ some d) → (putAll a l vs).tmps[d]? = a.tmps[d]?
  | [], vs, a => ⟨by cases vs <;> rfl, by cases vs <;> rfl, fun d _ => by cases vs <;> rfl⟩
  | o :: l, [], a => ⟨rfl, rfl, fun d _ => rfl⟩
  | o :: l, v :: vs, a => by
    obtain ⟨h1, h2, h3⟩ := putAll_rest l vs (a.put o.dst v)
    refine ⟨h1.trans ?_, h2.trans ?_, fun d hd => (h3 d fun o' ho' => hd o' (List.mem_cons_of_mem _ ho')).trans ?_⟩
    · cases o.dst <;> rfl
    · cases o.dst <;> simp [Act.put]
    · have := hd o List.mem_cons_self
      cases hod : o.dst with
      | none => rfl
      | some t =>
        have hne : t ≠ d := fun e => this (by rw [hod, e])
        show (a.tmps.setIfInBounds t v)[d]? = _
        rw [Array.getElem?_setIfInBounds_ne hne]

/-- The rule: the region's values in the order of the text; one obligation an operation; what follows, from the full frame. -/
theorem wp_region_steps {P : Program} {l : List Oper} {id : Nat} {a aF : Act} {w : World} {Q : Exit → Act → World → Prop} (vs : List Value) (C : Array Bool → World → Prop) (hm : P.follows .mixedOrders = true) (hT : tidyB l.toArray = true)
    (hF : putAll a l vs = aF) (h0 : C (Array.replicate l.length false) w.drew) (hsteps : StepsFrom P l.toArray aF C 0 l) (hQ : ∀ listed w', (∀ i, i < l.length → listed.getD i false = true) → C listed w' → Q .normal aF w') :
    (Code.region id l.toArray true).wp P Q a w := by
  obtain ⟨h1, h2, h3⟩ := putAll_rest l vs a
  rw [hF] at h1 h2 h3
  have hE : FrameEnd l.toArray a aF := ⟨h1.symm, h2.symm, fun d hd => h3 d fun o ho => by
    obtain ⟨i, hi⟩ := List.mem_iff_getElem?.1 ho
    exact hd i o (by simpa using hi)⟩
  refine wp_region_any hm ?_
  have hz : (Array.replicate l.toArray.size false).toList.countP (!·) ≤ l.toArray.size := by
    refine Nat.le_trans List.countP_le_length ?_
    simp
  refine wpAny_of_steps hE hT (fun i o ho => ?_) (fun listed w' hall hC => hQ listed w' (by simpa using hall) hC) _ _ a _ (by simp) hz ?_ (by simpa using h0)
  · have := StepsFrom.get hsteps i o (by simpa using ho)
    rwa [Nat.zero_add] at this
  · refine ⟨h1.symm, h2.symm, fun i o d hi hd hl => ?_, fun d _ => rfl⟩
    exfalso
    rw [Array.getD_eq_getD_getElem?, Array.getElem?_replicate] at hl
    split at hl <;> simp at hl

end Go.Proofs.Ytadiajlegajclaa
