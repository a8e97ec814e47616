/- The rule of W2 where a variable is read and then written in one statement (its slot is late). No program is named. -/
import Derived.Test.YtadiajlegajclaaW3
namespace Go.Proofs.Ytadiajlegajclaa
open Go.RowKit

def waitsB (o : Oper) (j : Nat) : Bool := o.after.any fun e => Region.binds .any e && e.on == j
/-- As tidyB, but a late slot (written by operation j) may be looked at by operations for which j waits. -/
def tidyL (late : List (Nat × Tmp)) (ops : Array Oper) : Bool :=
  Region.noSelect ops && (List.range ops.size).all fun i => match ops[i]? with
    | none => true
    | some o =>
      (o.after.all fun e => !Region.binds .any e || decide (e.on < i)) &&
      (List.range ops.size).all fun j => match ops[j]? with
        | none => true
        | some oj => match oj.dst with
          | none => true
          | some d => (i == j || !(o.dst == some d)) && (!(o.looksAt ops).contains d || waitsB o j || (late.contains (j, d) && waitsB oj i))

section
variable {P : Program} {ops : Array Oper} {Γ : Type} {late : List (Nat × Tmp)}

theorem tidyL_on (h : tidyL late ops = true) {i : Nat} {o : Oper} (hi : ops[i]? = some o) : (∀ e ∈ o.after, Region.binds .any e = true → e.on < i) ∧
    ∀ (j : Nat) (oj : Oper) (d : Tmp), ops[j]? = some oj → oj.dst = some d → (i ≠ j → o.dst ≠ some d) ∧ (d ∈ o.looksAt ops → (∃ e ∈ o.after, Region.binds .any e = true ∧ e.on = j) ∨ ((j, d) ∈ late ∧ ∃ e ∈ oj.after, Region.binds .any e = true ∧ e.on = i)) := by
  have wt : ∀ (o : Oper) (j : Nat), waitsB o j = true → ∃ e ∈ o.after, Region.binds .any e = true ∧ e.on = j := fun o j h => by
    unfold waitsB at h
    rw [Array.any_eq_true'] at h
    obtain ⟨e, he, h4⟩ := h
    simp only [Bool.and_eq_true, beq_iff_eq] at h4
    exact ⟨e, he, h4.1, h4.2⟩
  unfold tidyL at h
  rw [Bool.and_eq_true] at h
  have h1 := List.all_eq_true.1 h.2 i (List.mem_range.2 (Array.getElem?_eq_some_iff.1 hi).1)
  rw [hi] at h1
  simp only [Bool.and_eq_true] at h1
  refine ⟨fun e he hb => ?_, fun j oj d hj hd => ?_⟩
  · have h2 := (Array.all_eq_true_iff_forall_mem.1 h1.1) e he
    simpa [hb] using h2
  · have h2 := List.all_eq_true.1 h1.2 j (List.mem_range.2 (Array.getElem?_eq_some_iff.1 hj).1)
    rw [hj] at h2
    simp only [hd, Bool.and_eq_true, Bool.or_eq_true, beq_iff_eq, Bool.not_eq_true'] at h2
    refine ⟨fun hne he => ?_, fun hl => ?_⟩
    · rcases h2.1 with h3 | h3
      · exact hne h3
      · rw [he] at h3; simp at h3
    · rcases h2.2 with (h3 | h3) | h3
      · rw [List.contains_eq_mem, decide_eq_false_iff_not] at h3; exact absurd hl h3
      · exact .inl (wt _ _ h3)
      · exact .inr ⟨by simpa using h3.1, wt _ _ h3.2⟩

/-- Listed operations have all that they wait for listed. -/
def Closed (ops : Array Oper) (listed : Array Bool) : Prop := ∀ (j : Nat) (oj : Oper), ops[j]? = some oj → listed.getD j false = true → ∀ e ∈ oj.after, Region.binds .any e = true → listed.getD e.on false = true
theorem Closed.set {listed : Array Bool} (h : Closed ops listed) {i : Nat} {o : Oper} (hi : ops[i]? = some o) (hw : ∀ e ∈ o.after, Region.binds .any e = true → listed.getD e.on false = true) : Closed ops (listed.setIfInBounds i true) := by
  intro j oj hj hl e he hb
  by_cases hij : i = j
  · subst hij
    rw [hi] at hj; cases hj
    exact getD_set_true (hw e he hb)
  · rw [getD_set_ne false hij] at hl
    exact getD_set_true (h j oj hj hl e he hb)

theorem FrameAt.execL {a0 aF a : Act} {listed : Array Bool} (h : FrameAt ops a0 aF listed a) (hE : FrameEnd ops a0 aF) (hT : tidyL late ops = true) (hlate : ∀ p ∈ late, listed.getD p.1 false = false → aF.tmps[p.2]? = a0.tmps[p.2]?) (hcl : Closed ops listed)
    {i : Nat} {o : Oper} (hi : ops[i]? = some o) (hun : listed.getD i true = false) (hw : ∀ e ∈ o.after, Region.binds .any e = true → listed.getD e.on false = true) :
    execOp a.eval o = execOp aF.eval o ∧ Region.wanted o (yielded ops a.tmps) = Region.wanted o (yielded ops aF.tmps) := by
  have hsel : Region.noSelect ops = true := by
    unfold tidyL at hT
    rw [Bool.and_eq_true] at hT
    exact hT.1
  have huf : listed.getD i false = false := by
    have hlt : i < listed.size := by
      rcases Nat.lt_or_ge i listed.size with h' | h'
      · exact h'
      · rw [Array.getD_eq_getD_getElem?, Array.getElem?_eq_none h'] at hun; cases hun
    simp [hlt] at hun ⊢
    exact hun
  have look : ∀ {t : Tmp}, t ∈ o.looksAt ops → a.tmps[t]? = aF.tmps[t]? := by
    intro t ht
    by_cases hex : ∃ (j : Nat) (oj : Oper), ops[j]? = some oj ∧ oj.dst = some t
    · obtain ⟨j, oj, hj, hd⟩ := hex
      rcases ((tidyL_on hT hi).2 j oj t hj hd).2 ht with ⟨e, he, hb, hon⟩ | ⟨hm, e, he, hb, hon⟩
      · exact h.done j oj t hj hd (by rw [← hon]; exact hw e he hb)
      · have hjf : listed.getD j false = false := by
          cases hl : listed.getD j false with
          | false => rfl
          | true =>
            have := hcl j oj hj hl e he hb
            rw [hon, huf] at this
            cases this
        rw [h.rest t (fun j' oj' hj' hd' => ?_), hlate (j, t) hm hjf]
        by_cases hjj : j' = j
        · subst hjj; exact hjf
        · exact absurd hd' (((tidyL_on hT hj').2 j oj t hj hd).1 hjj)
    · have hn : ∀ (j : Nat) (oj : Oper), ops[j]? = some oj → oj.dst ≠ some t := fun j oj hj hd => hex ⟨j, oj, hj, hd⟩
      rw [h.rest t (fun j oj hj hd => absurd hd (hn j oj hj)), hE.rest t hn]
  refine ⟨execOp_congr o (fun cs b => Region.noSelect_spec hsel i o cs b hi) fun x hx => ?_, ?_⟩
  · cases x with
    | tmp t =>
      have := look (t := t) (List.mem_append_left _ (List.mem_filterMap.2 ⟨.tmp t, by simpa using hx, rfl⟩))
      simp only [Act.eval, Array.getD_eq_getD_getElem?, this]
    | _ => rfl
  · unfold Region.wanted
    cases hg : o.guard with
    | none => rfl
    | some g =>
      obtain ⟨j, want⟩ := g
      have : yielded ops a.tmps j = yielded ops aF.tmps j := by
        unfold yielded
        cases hj : (ops[j]?).bind (·.dst) with
        | none => rfl
        | some d =>
          have hl : d ∈ o.looksAt ops := by
            refine List.mem_append_right _ ?_
            rw [hg]
            simp [hj]
          have e := look hl
          simp only [Option.bind_some, e]
      simp only [this]

theorem wpOp_of_stepL {a0 a : Act} {aF : Γ → Act} {C : Array Bool → Γ → World → Prop} {listed : Array Bool} {γ : Γ} {w : World} {Q : Exit → Act → World → Prop} (hF : FrameAt ops a0 (aF γ) listed a) (hE : ∀ γ, FrameEnd ops a0 (aF γ)) (hT : tidyL late ops = true)
    (hlate : ∀ L γ w, C L γ w → ∀ p ∈ late, L.getD p.1 false = false → (aF γ).tmps[p.2]? = a0.tmps[p.2]?) (hcl : Closed ops listed) (hs : listed.size = ops.size)
    {i : Nat} {o : Oper} (hi : ops[i]? = some o) (hun : listed.getD i true = false) (hw : ∀ e ∈ o.after, Region.binds .any e = true → listed.getD e.on false = true) (hC : C listed γ w) (hstep : StepOkG P ops aF C i o)
    {K : Act → World → Prop} (hK : ∀ a' γ' w', FrameAt ops a0 (aF γ') (listed.setIfInBounds i true) a' → C (listed.setIfInBounds i true) γ' w' → K a' w') : wpOp P ops Q i K a w := by
  obtain ⟨he, hwa⟩ := hF.execL (hE γ) hT (hlate listed γ w hC) hcl hi hun hw
  have h := hstep listed γ w hun hw hC
  unfold wpOp
  simp only [hi]
  rw [hwa]
  split at h
  · rename_i hwant
    rw [if_pos hwant]
    left
    unfold Oper.wp at h ⊢
    rw [he]
    generalize (execOp (aF γ).eval o).run P w = r at h
    have put : ∀ v w', (∃ γ', (aF γ).put o.dst v = aF γ' ∧ C (listed.setIfInBounds i true) γ' w') → K (a.put o.dst v) w' := fun v w' ⟨γ', h1, h2⟩ => hK _ γ' _ (by rw [← h1]; exact hF.turn hs hi v) h2
    cases r with
    | ok x w' =>
      cases x <;> simp only [Oper.upon] at h ⊢
      case value v => exact put v w' h
      case skip => exact put undef w' h
      case defer d =>
        exfalso
        obtain ⟨γ', h1, h2⟩ := h
        have e1 := congrArg (fun a : Act => a.defers.length) h1
        have e2 := congrArg List.length (hE γ).defers
        have e3 := congrArg List.length (hE γ').defers
        cases hd : o.dst <;> simp [Act.put, hd] at e1 <;> omega
      case enter f args =>
        refine Calls.mono h fun e w'' hp => ?_
        cases e with
        | returned v => exact put v w'' hp
        | panicked c => exact hp.elim
        | outgrown => obtain ⟨_, _, hf⟩ := hp; exact hf.elim
      case row row args => exact Rows.mono h fun v w'' hp => put v w'' hp
    | halt x w' =>
      cases x <;> simp only [Oper.upon] at h ⊢
      case panic v => exact (h : False).elim
  · rename_i hwant
    rw [if_neg hwant]
    obtain ⟨γ', h1, h2⟩ := h
    exact hK _ γ' _ (by rw [← h1]; exact hF.turn hs hi undef) h2

theorem all_listedL (hT : tidyL late ops = true) {listed : Array Bool} (hs : listed.size = ops.size) (hr : Region.ready .any ops listed = []) : ∀ i, i < ops.size → listed.getD i false = true := by
  intro i
  induction i using Nat.strongRecOn with
  | _ i ih =>
    intro hi
    cases hl : listed.getD i false with
    | true => rfl
    | false =>
      exfalso
      have hmem : i ∈ Region.ready .any ops listed := by
        rw [mem_ready]
        refine ⟨?_, ops[i], Array.getElem?_eq_getElem hi, fun e he hb => ?_⟩
        · have h2 : i < listed.size := by omega
          simp [h2] at hl ⊢
          exact hl
        · have h3 := (tidyL_on hT (Array.getElem?_eq_getElem hi)).1 e he hb
          exact ih e.on h3 (by omega)
      rw [hr] at hmem
      cases hmem

theorem wpAny_of_stepsL {a0 : Act} {aF : Γ → Act} {C : Array Bool → Γ → World → Prop} {Q : Exit → Act → World → Prop} (hE : ∀ γ, FrameEnd ops a0 (aF γ)) (hT : tidyL late ops = true)
    (hlate : ∀ L γ w, C L γ w → ∀ p ∈ late, L.getD p.1 false = false → (aF γ).tmps[p.2]? = a0.tmps[p.2]?) (hsteps : ∀ i o, ops[i]? = some o → StepOkG P ops aF C i o)
    (hQ : ∀ listed γ w, (∀ i, i < ops.size → listed.getD i false = true) → C listed γ w → Q .normal (aF γ) w) :
    ∀ (fuel : Nat) (listed : Array Bool) (γ : Γ) (a : Act) (w : World), listed.size = ops.size → listed.toList.countP (!·) ≤ fuel → Closed ops listed → FrameAt ops a0 (aF γ) listed a → C listed γ w → wpAny P .any ops Q fuel listed a w
  | 0, listed, γ, a, w, hs, hc, hcl, hF, hC => by
    have hall : ∀ i, i < ops.size → listed.getD i false = true := by
      intro i hi
      have h2 : i < listed.size := by omega
      have h3 : listed.toList.countP (!·) = 0 := by omega
      have h4 := List.countP_eq_zero.1 h3 listed[i] (by simp)
      have h5 : listed[i] = true := by simpa using h4
      simp [h2, h5]
    refine ⟨?_, ?_⟩
    · apply List.eq_nil_iff_forall_not_mem.2
      intro i hi
      obtain ⟨hun, o, ho, _⟩ := mem_ready.1 hi
      have h1 := hall i (Array.getElem?_eq_some_iff.1 ho).1
      have h2 : i < listed.size := by have := (Array.getElem?_eq_some_iff.1 ho).1; omega
      simp [h2] at h1 hun
      rw [h1] at hun
      cases hun
    · rw [hF.final (hE γ) hall]
      exact hQ listed γ w hall hC
  | fuel + 1, listed, γ, a, w, hs, hc, hcl, hF, hC => by
    refine ⟨fun hr => ?_, fun i hi => ?_⟩
    · have hall := all_listedL hT hs hr
      rw [hF.final (hE γ) hall]
      exact hQ listed γ w hall hC
    · obtain ⟨hun, o, ho, hw⟩ := mem_ready.1 hi
      refine wpOp_of_stepL hF hE hT hlate hcl hs ho hun hw hC (hsteps i o ho) fun a' γ' w' hF' hC' => ?_
      exact wpAny_of_stepsL hE hT hlate hsteps hQ fuel _ γ' a' w' (by simpa using hs) (by have := unlisted_count hun; omega) (hcl.set ho hw) hF' hC'
end

/-- The rule with a ghost and late slots. -/
theorem wp_region_late {P : Program} {l : List Oper} {id : Nat} {a : Act} {w : World} {Q : Exit → Act → World → Prop} {Γ : Type} (late : List (Nat × Tmp)) (γ0 : Γ) (vs : Γ → List Value) {aF : Γ → Act} (C : Array Bool → Γ → World → Prop) (hm : P.follows .mixedOrders = true) (hT : tidyL late l.toArray = true)
    (hF : ∀ γ, putAll a l (vs γ) = aF γ) (hlate : ∀ L γ w, C L γ w → ∀ p ∈ late, L.getD p.1 false = false → (aF γ).tmps[p.2]? = a.tmps[p.2]?) (h0 : C (Array.replicate l.length false) γ0 w.drew) (hsteps : StepsFromG P l.toArray aF C 0 l)
    (hQ : ∀ listed γ w', (∀ i, i < l.length → listed.getD i false = true) → C listed γ w' → Q .normal (aF γ) w') :
    (Code.region id l.toArray true).wp P Q a w := by
  have hE : ∀ γ, FrameEnd l.toArray a (aF γ) := fun γ => by
    obtain ⟨h1, h2, h3⟩ := putAll_rest l (vs γ) a
    rw [hF γ] at h1 h2 h3
    exact ⟨h1.symm, h2.symm, fun d hd => h3 d fun o ho => by
      obtain ⟨i, hi⟩ := List.mem_iff_getElem?.1 ho
      exact hd i o (by simpa using hi)⟩
  refine wp_region_any hm ?_
  have hz : (Array.replicate l.toArray.size false).toList.countP (!·) ≤ l.toArray.size := by
    refine Nat.le_trans List.countP_le_length ?_
    simp
  have hno : ∀ i : Nat, (Array.replicate l.toArray.size false).getD i false = true → False := fun i hl => by
    rw [Array.getD_eq_getD_getElem?, Array.getElem?_replicate] at hl
    split at hl <;> simp at hl
  refine wpAny_of_stepsL hE hT hlate (fun i o ho => ?_) (fun listed γ w' hall hC => hQ listed γ w' (by simpa using hall) hC) _ _ γ0 a _ (by simp) hz (fun j oj hj hl => (hno j hl).elim) ?_ (by simpa using h0)
  · have := StepsFromG.get hsteps i o (by simpa using ho)
    rwa [Nat.zero_add] at this
  · exact ⟨(hE γ0).defers, (hE γ0).size, fun i o d hi hd hl => (hno i hl).elim, fun d _ => rfl⟩
end Go.Proofs.Ytadiajlegajclaa
