/- All points of the parts lie in the box. The lists of the walk are plain here too. -/
import Derived.Test.YtadiajlegajclaaP1
import Derived.Test.YtadiajlegajclaaL1
set_option linter.unusedSimpArgs false
set_option linter.unusedVariables false
namespace Go.Proofs.Ytadiajlegajclaa

/-- Neighbours are different. -/
def Nb (l : List Pt) : Prop := ∀ k p, l[k]? = some p → 0 < k → l[k - 1]? ≠ some p
theorem Nb.take {l : List Pt} (h : Nb l) (m : Nat) : Nb (l.take m) := by
  intro k p hk h0 h1
  have hkm : k < m := by
    have := (List.getElem?_eq_some_iff.1 hk).1
    rw [List.length_take] at this; omega
  rw [List.getElem?_take_of_lt hkm] at hk
  rw [List.getElem?_take_of_lt (by omega)] at h1
  exact h k p hk h0 h1
theorem Nb.snoc {l : List Pt} {x : Pt} (h : Nb l) (hx : l.getLast? ≠ some x) : Nb (l ++ [x]) := by
  intro k p hk h0 h1
  by_cases hkl : k < l.length
  · rw [List.getElem?_append_left hkl] at hk
    rw [List.getElem?_append_left (by omega)] at h1
    exact h k p hk h0 h1
  · have hlt := (List.getElem?_eq_some_iff.1 hk).1
    simp only [List.length_append, List.length_cons, List.length_nil] at hlt
    have hkk : k = l.length := by omega
    subst hkk
    rw [List.getElem?_append_right (Nat.le_refl _), Nat.sub_self] at hk
    cases hk
    rw [List.getElem?_append_left (by omega)] at h1
    rw [List.getLast?_eq_getElem?] at hx
    exact hx h1
theorem dd_nb (l : List Pt) : Nb (dd l) := by
  refine snoc_ind (p := fun l => Nb (dd l)) (fun k p h => by simp [dd] at h) (fun l x ih => ?_) l
  rw [dd_snoc, dput]
  split
  · exact ih
  · rename_i h; exact ih.snoc h
theorem dd_mem (l : List Pt) : ∀ x ∈ dd l, x ∈ l := by
  refine snoc_ind (p := fun l => ∀ x ∈ dd l, x ∈ l) (fun x h => h) (fun l y ih => ?_) l
  intro x hx
  rw [dd_snoc, dput] at hx
  split at hx
  · exact List.mem_append_left _ (ih x hx)
  · rcases List.mem_append.1 hx with h | h
    · exact List.mem_append_left _ (ih x h)
    · exact List.mem_append_right _ h
theorem inside_of {l : List Pt} {b : Bx} (h1 : Nb l) (h2 : ∀ x ∈ l, inB x b = true) : Inside l b := fun k p hk => ⟨h2 p (List.mem_of_getElem? hk), fun h0 => h1 k p hk h0⟩
theorem Inside.nb {l : List Pt} {b : Bx} (h : Inside l b) : Nb l := fun k p hk h0 => (h k p hk).2 h0
theorem Inside.all {l : List Pt} {b : Bx} (h : Inside l b) : ∀ x ∈ l, inB x b = true := fun x hx => by
  obtain ⟨k, hk⟩ := List.mem_iff_getElem?.1 hx
  exact (h k x hk).1

/-- What Line's state keeps. -/
structure LineIn (b : Bx) (s : List Pt × List (List Pt)) : Prop where
  now : ∀ x ∈ s.1, inB x b = true
  done : ∀ l ∈ s.2, Inside l b ∧ 2 ≤ l.length
theorem LineIn.flush {b : Bx} {s : List Pt × List (List Pt)} (h : LineIn b s) : LineIn b (flush s) := by
  refine ⟨fun x hx => by simp [Ytadiajlegajclaa.flush] at hx, fun l hl => ?_⟩
  change l ∈ (if 1 < (dd s.1).length then s.2 ++ [dd s.1] else s.2) at hl
  split at hl
  · rename_i hlen
    rcases List.mem_append.1 hl with hl | hl
    · exact h.done l hl
    · simp at hl; subst hl
      exact ⟨inside_of (dd_nb _) (fun x hx => h.now x (dd_mem _ x hx)), hlen⟩
  · exact h.done l hl
theorem LineIn.step {b : Bx} (hb : BoxUp b) {s : List Pt × List (List Pt)} (h : LineIn b s) (pq : Pt × Pt) : LineIn b (lineStep b s pq) := by
  have h1 : LineIn b (if inB pq.1 b then s else Ytadiajlegajclaa.flush s) := by
    split
    · exact h
    · exact h.flush
  unfold lineStep
  dsimp only
  generalize (if inB pq.1 b then s else Ytadiajlegajclaa.flush s) = s1 at h1 ⊢
  split
  · rename_i hk
    obtain ⟨h2, h3⟩ := piece_in hb hk
    refine ⟨fun x hx => ?_, h1.done⟩
    rcases List.mem_append.1 hx with hx | hx
    · exact h1.now x hx
    · simp at hx
      rcases hx with rfl | rfl
      · exact h2
      · exact h3
  · exact h1
theorem lineS_in {b : Bx} (hb : BoxUp b) (ps : List (Pt × Pt)) : LineIn b (lineS b ps) := by
  refine snoc_ind (p := fun ps => LineIn b (lineS b ps)) ⟨fun x hx => by simp [lineS] at hx, fun x hx => by simp [lineS] at hx⟩ (fun l x ih => ?_) ps
  unfold lineS at ih ⊢
  rw [List.foldl_append]
  exact ih.step hb x
theorem propB_box {l : List Pt} {b : Bx} (h : propB l b = true) : boxB b = true ∧ l.all nearB = true := by
  unfold propB at h
  rwa [Bool.and_eq_true] at h
theorem lineF_in (l : List Pt) (b : Bx) : ∀ x ∈ lineF l b, Inside x b ∧ 2 ≤ x.length := by
  intro x hx
  unfold lineF at hx
  split at hx
  · rename_i h
    exact ((lineS_in (boxB_up (propB_box h).1) (pairs l)).flush).done x hx
  · simp at hx

/-- A cut's points are kept by it. -/
theorem acrossF_coord {i : Nat} {b : Bx} {p q : Pt} (h : (keepsF i b p != keepsF i b q) = true) : coord i (acrossF i b p q) = limitC i b := by
  obtain ⟨⟨hu, _, _⟩, hne⟩ := acrossR_unit h
  -- the step of the coordinate is exact
  have key : ∀ d c : Int, d = coord i q - coord i p → c = limitC i b - coord i p → rnd ((raOf c d).1 * d) (raOf c d).2 = c := by
    intro d c hd hc
    have hd0 : d ≠ 0 := by omega
    unfold raOf
    split
    · show rnd (-c * d) (-d) = c
      rw [Int.neg_mul_comm]
      exact rnd_exact (by omega) c
    · exact rnd_exact (by omega) c
  have key2 : ∀ d c : Int, d = coord i q - coord i p → c = limitC i b - coord i p → rnd ((raOf c d).1 * (-d)) (raOf c d).2 = -c := by
    intro d c hd hc
    have hd0 : d ≠ 0 := by omega
    unfold raOf
    split
    · show rnd (-c * -d) (-d) = -c
      exact rnd_exact (by omega) (-c)
    · show rnd (c * -d) d = -c
      rw [← Int.neg_mul_comm]
      exact rnd_exact (by omega) (-c)
  have k1 := key _ _ rfl rfl
  have k2 := key2 _ _ rfl rfl
  unfold acrossF acrossR ptAt
  generalize hr : raOf (limitC i b - coord i p) (coord i q - coord i p) = r at k1 k2 ⊢
  unfold coord limitC at *
  split
  · rename_i h0
    simp only [h0, if_pos] at k1 k2 hne ⊢
    rw [show -(-q.x - -p.x) = q.x - p.x by omega] at k2
    omega
  · rename_i h0
    split
    · rename_i h1
      simp only [h0, h1, if_pos, if_false] at k1 k2 hne ⊢
      simp at k1 k2 ⊢
      omega
    · rename_i h1
      split
      · rename_i h2
        simp only [h0, h1, h2, if_pos, if_false] at k1 k2 hne ⊢
        simp only [show ((2 : Nat) = 0) = False by simp, show ((2 : Nat) = 1) = False by simp, if_false] at k1 k2 ⊢
        rw [show -(-q.y - -p.y) = q.y - p.y by omega] at k2
        omega
      · rename_i h2
        simp only [h0, h1, h2, if_false] at k1 k2 hne ⊢
        omega
theorem cutPair_keeps {i : Nat} {b : Bx} {p q x : Pt} (hx : x ∈ cutPair i b p q) : coord i x ≤ limitC i b := by
  unfold cutPair at hx
  rcases List.mem_append.1 hx with hx | hx
  · split at hx
    · rename_i h
      simp at hx; subst hx
      rw [acrossF_coord h]
      exact Int.le_refl _
    · simp at hx
  · split at hx
    · rename_i h
      simp at hx; subst hx
      unfold keepsF at h
      exact of_decide_eq_true h
    · simp at hx
theorem cutF_keeps {i : Nat} {b : Bx} {r : List Pt} : ∀ x ∈ cutF i b r, coord i x ≤ limitC i b := by
  intro x hx
  unfold cutF cutTo at hx
  obtain ⟨j, _, hj⟩ := List.mem_flatMap.1 hx
  exact cutPair_keeps hj
theorem cutF_within {i : Nat} {b : Bx} {r : List Pt} {lo hi : Pt} (hr : ∀ p ∈ r, Within lo hi p) : ∀ x ∈ cutF i b r, Within lo hi x := cutTo_within hr _ (Nat.le_refl _)
theorem cuts_in {b : Bx} {l : List Pt} (h : ∀ p ∈ l, nearB p = true) : ∀ x ∈ cuts b l 4, inB x b = true := by
  have h0 : ∀ p ∈ l, Within ⟨-2097152, -2097152⟩ ⟨2097152, 2097152⟩ p := fun p hp => by
    have := nearB_iff.1 (h p hp)
    exact ⟨this.1, this.2.1, this.2.2.1, this.2.2.2⟩
  have h1 : ∀ p ∈ cuts b l 1, Within ⟨b.lo.x, -2097152⟩ ⟨2097152, 2097152⟩ p := fun p hp => by
    have k := cutF_keeps p hp
    obtain ⟨a, c, d, e⟩ := cutF_within h0 p hp
    have k' : -p.x ≤ -b.lo.x := k
    exact ⟨by show b.lo.x ≤ p.x; omega, c, d, e⟩
  have h2 : ∀ p ∈ cuts b l 2, Within ⟨b.lo.x, -2097152⟩ ⟨b.hi.x, 2097152⟩ p := fun p hp => by
    have k := cutF_keeps p hp
    obtain ⟨a, c, d, e⟩ := cutF_within h1 p hp
    exact ⟨a, k, d, e⟩
  have h3 : ∀ p ∈ cuts b l 3, Within ⟨b.lo.x, b.lo.y⟩ ⟨b.hi.x, 2097152⟩ p := fun p hp => by
    have k := cutF_keeps p hp
    obtain ⟨a, c, d, e⟩ := cutF_within h2 p hp
    have k' : -p.y ≤ -b.lo.y := k
    exact ⟨a, c, by show b.lo.y ≤ p.y; omega, e⟩
  intro p hp
  have k := cutF_keeps p hp
  obtain ⟨a, c, d, e⟩ := cutF_within h3 p hp
  rw [inB_iff]
  exact ⟨a, c, d, k⟩

theorem trim_take (r : List Pt) : ∀ k, ∃ m, trim r k = r.take m
  | 0 => ⟨r.length, by simp [trim]⟩
  | k + 1 => by
    unfold trim
    split
    · obtain ⟨m, hm⟩ := trim_take r.dropLast k
      refine ⟨min m (r.length - 1), ?_⟩
      rw [hm, List.dropLast_eq_take, List.take_take]
    · exact ⟨r.length, by simp⟩
theorem trim_ends : ∀ (k : Nat) (r : List Pt), r.length ≤ k + 1 → ¬ (1 < (trim r k).length ∧ (trim r k).head? = (trim r k).getLast?)
  | 0, r, h => fun ⟨h1, _⟩ => by simp only [trim] at h1; omega
  | k + 1, r, h => by
    unfold trim
    split
    · exact trim_ends k r.dropLast (by rw [List.length_dropLast]; omega)
    · assumption

/-- A ring's part: nothing, or at least 3 points in the box, all neighbours different. -/
theorem ringF_in (l : List Pt) (b : Bx) : ringF l b = [] ∨ (Inside (ringF l b) b ∧ 3 ≤ (ringF l b).length ∧ (ringF l b).head? ≠ (ringF l b).getLast?) := by
  unfold ringF
  split
  · rename_i h
    have hin := cuts_in (b := b) (l := l) (fun p hp => List.all_eq_true.1 (propB_box h).2 p hp)
    unfold aroundF
    split
    · exact .inl rfl
    · rename_i hlen
      right
      refine ⟨inside_of ?_ fun x hx => ?_, by omega, fun e => trim_ends (dd (cuts b l 4)).length (dd (cuts b l 4)) (by omega) ⟨by omega, e⟩⟩
      · obtain ⟨m, hm⟩ := trim_take (dd (cuts b l 4)) (dd (cuts b l 4)).length
        rw [hm]
        exact (dd_nb _).take m
      · obtain ⟨m, hm⟩ := trim_take (dd (cuts b l 4)) (dd (cuts b l 4)).length
        rw [hm] at hx
        exact hin x (dd_mem _ x (List.mem_of_mem_take hx))
  · exact .inl rfl
end Go.Proofs.Ytadiajlegajclaa
