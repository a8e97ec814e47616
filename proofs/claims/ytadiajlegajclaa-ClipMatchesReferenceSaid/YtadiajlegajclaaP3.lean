/- Lengths of the parts. No program is named. -/
import Derived.Test.YtadiajlegajclaaP2
namespace Go.Proofs.Ytadiajlegajclaa

theorem lineF_len (l : List Pt) (b : Bx) : (lineF l b).length ≤ l.length + 1 := by
  unfold lineF
  split
  · have h1 := (flush_len (lineS b (pairs l))).2
    have h2 := (lineS_len b (pairs l)).2
    rw [pairs_len] at h2
    omega
  · simp
theorem flush_each {s : List Pt × List (List Pt)} {m : Nat} (h1 : s.1.length ≤ m) (h2 : ∀ x ∈ s.2, x.length ≤ m) : ∀ x ∈ (flush s).2, x.length ≤ m := by
  intro x hx
  change x ∈ (if 1 < (dd s.1).length then s.2 ++ [dd s.1] else s.2) at hx
  split at hx
  · rcases List.mem_append.1 hx with hx | hx
    · exact h2 x hx
    · simp at hx; subst hx
      exact Nat.le_trans (dd_len_le _) h1
  · exact h2 x hx
theorem lineS_each (b : Bx) (ps : List (Pt × Pt)) : ∀ x ∈ (lineS b ps).2, x.length ≤ 2 * ps.length := by
  refine snoc_ind (p := fun ps => ∀ x ∈ (lineS b ps).2, x.length ≤ 2 * ps.length) (fun x hx => by simp [lineS] at hx) (fun l pq ih => ?_) ps
  have e : lineS b (l ++ [pq]) = lineStep b (lineS b l) pq := by simp [lineS, List.foldl_append]
  intro x hx
  rw [e] at hx
  have h1 := (lineS_len b l).1
  have h2 : ∀ x ∈ (flush (lineS b l)).2, x.length ≤ 2 * l.length := flush_each h1 ih
  have e2 : (lineStep b (lineS b l) pq).2 = (if inB pq.1 b then lineS b l else flush (lineS b l)).2 := by
    unfold lineStep
    dsimp only
    split <;> rfl
  rw [e2] at hx
  simp only [List.length_append, List.length_cons, List.length_nil]
  split at hx
  · have := ih x hx; omega
  · have := h2 x hx; omega
theorem lineF_each (l : List Pt) (b : Bx) : ∀ x ∈ lineF l b, x.length ≤ 2 * l.length := by
  intro x hx
  unfold lineF at hx
  split at hx
  · have h := flush_each (lineS_len b (pairs l)).1 (lineS_each b (pairs l)) x hx
    rw [pairs_len] at h
    omega
  · simp at hx
theorem trim_len (k : Nat) (r : List Pt) : (trim r k).length ≤ r.length := by
  obtain ⟨m, hm⟩ := trim_take r k
  rw [hm, List.length_take]
  omega
theorem aroundF_len (r : List Pt) : (aroundF r).length ≤ r.length := by
  unfold aroundF
  have h1 := trim_len (dd r).length (dd r)
  have h2 := dd_len_le r
  split
  · simp
  · omega
theorem ringF_len (l : List Pt) (b : Bx) : (ringF l b).length ≤ 16 * l.length := by
  unfold ringF
  split
  · have h1 := aroundF_len (cuts b l 4)
    have h2 := cuts_len b l 4
    omega
  · simp
end Go.Proofs.Ytadiajlegajclaa
