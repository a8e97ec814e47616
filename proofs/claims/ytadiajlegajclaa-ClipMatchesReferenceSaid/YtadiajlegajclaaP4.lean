/- What lies in the box is its own part. No program is named. -/
import Derived.Test.YtadiajlegajclaaP3
set_option linter.unusedSimpArgs false
set_option linter.unusedVariables false
namespace Go.Proofs.Ytadiajlegajclaa

theorem dd_of_nb {l : List Pt} : Nb l → dd l = l := by
  refine snoc_ind (p := fun l => Nb l → dd l = l) (fun _ => rfl) (fun l x ih h => ?_) l
  have hl : Nb l := by
    have := h.take l.length
    rwa [List.take_left' rfl] at this
  rw [dd_snoc, ih hl, dput]
  split
  · rename_i hx
    exfalso
    rw [List.getLast?_eq_getElem?] at hx
    have hlen : 0 < l.length := by
      rcases Nat.eq_zero_or_pos l.length with h0 | h0
      · rw [List.eq_nil_of_length_eq_zero h0] at hx; simp at hx
      · exact h0
    refine h l.length x (by simp) hlen ?_
    rw [List.getElem?_append_left (by omega)]
    exact hx
  · rfl
theorem pairs_snoc (l : List Pt) (z y : Pt) : pairs ((l ++ [z]) ++ [y]) = pairs (l ++ [z]) ++ [(z, y)] := by
  unfold pairs
  induction l with
  | nil => rfl
  | cons a l ih =>
    cases l with
    | nil => rfl
    | cons c l => simp only [List.cons_append, List.tail_cons, List.zip_cons_cons] at ih ⊢; rw [ih]
/-- Each pair's two points. -/
def dbl (l : List Pt) : List Pt := (pairs l).flatMap fun pq => [pq.1, pq.2]
theorem dd_dbl (l : List Pt) : dd (dbl l) = if 2 ≤ l.length then dd l else [] := by
  refine snoc_ind (p := fun l => dd (dbl l) = if 2 ≤ l.length then dd l else []) rfl (fun l y ih => ?_) l
  refine (snoc_ind (p := fun l => dd (dbl l) = (if 2 ≤ l.length then dd l else []) → dd (dbl (l ++ [y])) = if 2 ≤ (l ++ [y]).length then dd (l ++ [y]) else []) (fun _ => rfl) (fun l z _ ih => ?_) l) ih
  have e : dbl ((l ++ [z]) ++ [y]) = dbl (l ++ [z]) ++ [z] ++ [y] := by
    unfold dbl
    rw [pairs_snoc, List.flatMap_append]
    simp
  rw [e, dd_snoc, dd_snoc, ih, dd_snoc (l ++ [z]) y]
  rw [if_pos (show 2 ≤ ((l ++ [z]) ++ [y]).length by simp)]
  congr 1
  split
  · unfold dput
    rw [if_pos (by rw [dd_last]; simp)]
  · rename_i h
    have : l = [] := List.eq_nil_of_length_eq_zero (by rw [List.length_append, List.length_singleton] at h; omega)
    subst this
    rfl
/-- Where all points are in the box, no part ends. -/
theorem lineS_whole {b : Bx} (hb : BoxUp b) : ∀ (ps : List (Pt × Pt)), (∀ pq ∈ ps, inB pq.1 b = true ∧ inB pq.2 b = true) → lineS b ps = (ps.flatMap fun pq => [pq.1, pq.2], []) := by
  intro ps
  refine snoc_ind (p := fun ps => (∀ pq ∈ ps, inB pq.1 b = true ∧ inB pq.2 b = true) → lineS b ps = (ps.flatMap fun pq => [pq.1, pq.2], [])) (fun _ => rfl) (fun l x ih h => ?_) ps
  have e : lineS b (l ++ [x]) = lineStep b (lineS b l) x := by simp [lineS, List.foldl_append]
  rw [e, ih (fun pq hp => h pq (List.mem_append_left _ hp))]
  obtain ⟨h1, h2⟩ := h x (List.mem_append_right _ (List.mem_singleton.2 rfl))
  obtain ⟨k1, k2⟩ := piece_from (q := x.2) hb h1
  obtain ⟨_, k3⟩ := piece_to (p := x.1) hb h2
  unfold lineStep
  dsimp only
  rw [if_pos h1, if_pos k1, k2, k3]
  simp
theorem pairs_mem {l : List Pt} {pq : Pt × Pt} (h : pq ∈ pairs l) : pq.1 ∈ l ∧ pq.2 ∈ l := by
  unfold pairs at h
  exact ⟨(List.of_mem_zip h).1, List.mem_of_mem_tail (List.of_mem_zip h).2⟩
theorem inB_near {p : Pt} {b : Bx} (hb : boxB b = true) (h : inB p b = true) : nearB p = true := by
  unfold boxB at hb
  simp only [Bool.and_eq_true] at hb
  have h1 := nearB_iff.1 hb.1.1
  have h2 := nearB_iff.1 hb.1.2
  rw [inB_iff] at h
  rw [nearB_iff]
  omega
theorem prop_of_in {l : List Pt} {b : Bx} (hb : boxB b = true) (h : ∀ p ∈ l, inB p b = true) : propB l b = true := by
  unfold propB
  rw [hb, Bool.true_and, List.all_eq_true]
  exact fun p hp => inB_near hb (h p hp)
theorem lineF_whole {l : List Pt} {b : Bx} (hb : boxB b = true) (h : ∀ p ∈ l, inB p b = true) : lineF l b = if 2 ≤ (dd l).length then [dd l] else [] := by
  unfold lineF
  rw [if_pos (prop_of_in hb h), lineS_whole (boxB_up hb) (pairs l) (fun pq hp => ⟨h _ (pairs_mem hp).1, h _ (pairs_mem hp).2⟩)]
  have e := dd_dbl l
  unfold dbl at e
  show (if 1 < (dd ((pairs l).flatMap fun pq => [pq.1, pq.2])).length then [] ++ [dd _] else []) = _
  rw [e]
  by_cases hl : 2 ≤ l.length
  · rw [if_pos hl]
    rfl
  · rw [if_neg hl]
    have := dd_len_le l
    rw [if_neg (by simp), if_neg (by omega)]
theorem lineF_box {l : List Pt} {b : Bx} {x : List Pt} (h : x ∈ lineF l b) : boxB b = true := by
  unfold lineF at h
  split at h
  · rename_i hp; exact (propB_box hp).1
  · simp at h
/-- A part's part is the part. -/
theorem lineF_again {l : List Pt} {b : Bx} {x : List Pt} (h : x ∈ lineF l b) : lineF x b = [x] := by
  obtain ⟨hi, h2⟩ := lineF_in l b x h
  rw [lineF_whole (lineF_box h) hi.all, dd_of_nb hi.nb, if_pos h2]

theorem cutF_all {i : Nat} {b : Bx} {r : List Pt} (h : ∀ p ∈ r, keepsF i b p = true) : cutF i b r = r := by
  unfold cutF cutTo
  have e : ∀ j ∈ List.range r.length, cutPair i b (before r j) (r.getD j ⟨0, 0⟩) = [r.getD j ⟨0, 0⟩] := by
    intro j hj
    have hlt := List.mem_range.1 hj
    have k1 := h _ (before_mem hlt)
    have k2 := h _ (getD_mem hlt)
    unfold cutPair
    rw [k1, k2]
    rfl
  have : (List.range r.length).flatMap (fun j => cutPair i b (before r j) (r.getD j ⟨0, 0⟩)) = (List.range r.length).flatMap (fun j => [r.getD j ⟨0, 0⟩]) := by
    rw [List.flatMap_def, List.flatMap_def]
    congr 1
    exact List.map_congr_left e
  rw [this, ← List.map_eq_flatMap]
  refine List.ext_getElem? fun k => ?_
  rw [List.getElem?_map]
  by_cases hk : k < r.length
  · rw [List.getElem?_range hk]
    simp [hk]
  · rw [List.getElem?_eq_none (by simp; omega), List.getElem?_eq_none (by omega)]
    rfl
theorem keepsF_in {i : Nat} {b : Bx} {p : Pt} (h : inB p b = true) : keepsF i b p = true := by
  rw [inB_iff] at h
  unfold keepsF coord limitC
  rw [decide_eq_true_eq]
  split
  · omega
  · split
    · omega
    · split <;> omega
theorem cuts_all {b : Bx} {r : List Pt} (h : ∀ p ∈ r, inB p b = true) : ∀ k, cuts b r k = r
  | 0 => rfl
  | k + 1 => by
    show cutF k b (cuts b r k) = r
    rw [cuts_all h k]
    exact cutF_all fun p hp => keepsF_in (h p hp)
theorem ringF_whole {r : List Pt} {b : Bx} (hb : boxB b = true) (h : ∀ p ∈ r, inB p b = true) : ringF r b = aroundF r := by
  unfold ringF
  rw [if_pos (prop_of_in hb h), cuts_all h]
theorem trim_id {r : List Pt} (h : r.head? ≠ r.getLast?) (k : Nat) : trim r k = r := by
  cases k with
  | zero => rfl
  | succ k =>
    unfold trim
    rw [if_neg (fun e => h e.2)]
theorem aroundF_id {r : List Pt} (h1 : Nb r) (h2 : 3 ≤ r.length) (h3 : r.head? ≠ r.getLast?) : aroundF r = r := by
  unfold aroundF
  rw [dd_of_nb h1, trim_id h3, if_neg (by omega)]
theorem ringF_box {l : List Pt} {b : Bx} (h : ringF l b ≠ []) : boxB b = true := by
  unfold ringF at h
  split at h
  · rename_i hp; exact (propB_box hp).1
  · exact absurd rfl h
theorem ringF_again (l : List Pt) (b : Bx) : ringF (ringF l b) b = ringF l b := by
  rcases ringF_in l b with e | ⟨h1, h2, h3⟩
  · rw [e]
    unfold ringF
    rw [cuts_all (r := []) (fun p hp => by simp at hp)]
    have : aroundF [] = [] := by
      unfold aroundF
      rw [dd_nil]
      simp [trim]
    rw [this]
    split <;> rfl
  · have hne : ringF l b ≠ [] := fun e => by rw [e] at h2; simp at h2
    rw [ringF_whole (ringF_box hne) h1.all, aroundF_id h1.nb h2 h3]
end Go.Proofs.Ytadiajlegajclaa
