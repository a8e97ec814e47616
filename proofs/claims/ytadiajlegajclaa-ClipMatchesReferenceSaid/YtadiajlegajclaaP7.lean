/- All points are beyond one side: nothing is left. No program is named. -/
import Derived.Test.YtadiajlegajclaaP6
set_option linter.unusedSimpArgs false
set_option linter.unusedVariables false
namespace Go.Proofs.Ytadiajlegajclaa

/-- Beyond side 0 to 3. -/
def beyB (s : Nat) (b : Bx) (p : Pt) : Bool := if s = 0 then decide (p.x < b.lo.x) else if s = 1 then decide (b.hi.x < p.x) else if s = 2 then decide (p.y < b.lo.y) else decide (b.hi.y < p.y)
theorem beyB_coord {s : Nat} {b : Bx} {p : Pt} (h : beyB s b p = true) : limitC s b < coord s p := by
  unfold beyB at h
  unfold limitC coord
  split at h
  · rename_i h0; simp only [decide_eq_true_eq] at h; simp only [h0, if_true]; omega
  · rename_i h0
    split at h
    · rename_i h1; simp only [decide_eq_true_eq] at h; simp only [h1, if_true, if_neg (show ¬ (1 = 0) by decide)]; exact h
    · rename_i h1
      split at h
      · rename_i h2; simp only [decide_eq_true_eq] at h; simp only [h2, if_true, if_neg (show ¬ (2 = 0) by decide), if_neg (show ¬ (2 = 1) by decide)]; omega
      · rename_i h2; simp only [decide_eq_true_eq] at h; simp only [if_neg h0, if_neg h1, if_neg h2]; exact h
theorem beyB_not_in {s : Nat} {b : Bx} {p : Pt} (h : beyB s b p = true) : inB p b = false := by
  rw [Bool.eq_false_iff]
  intro hi
  have := inB_iff.1 hi
  unfold beyB at h
  split at h
  · simp only [decide_eq_true_eq] at h; omega
  · split at h
    · simp only [decide_eq_true_eq] at h; omega
    · split at h <;> simp only [decide_eq_true_eq] at h <;> omega
theorem piece_bey {s : Nat} {b : Bx} (hb : BoxUp b) {p q : Pt} (hp : beyB s b p = true) (hq : beyB s b q = true) : (pieceF p q b).2.2 = false := by
  refine piece_beyond hb ?_
  unfold beyB at hp hq
  by_cases h0 : s = 0
  · rw [if_pos h0] at hp hq; simp only [decide_eq_true_eq] at hp hq; exact .inl ⟨hp, hq⟩
  · rw [if_neg h0] at hp hq
    by_cases h1 : s = 1
    · rw [if_pos h1] at hp hq; simp only [decide_eq_true_eq] at hp hq; exact .inr (.inl ⟨hp, hq⟩)
    · rw [if_neg h1] at hp hq
      by_cases h2 : s = 2
      · rw [if_pos h2] at hp hq; simp only [decide_eq_true_eq] at hp hq; exact .inr (.inr (.inl ⟨hp, hq⟩))
      · rw [if_neg h2] at hp hq; simp only [decide_eq_true_eq] at hp hq; exact .inr (.inr (.inr ⟨hp, hq⟩))
theorem lineS_bey {s : Nat} {b : Bx} (hb : BoxUp b) : ∀ (ps : List (Pt × Pt)), (∀ pq ∈ ps, beyB s b pq.1 = true ∧ beyB s b pq.2 = true) → lineS b ps = ([], []) := by
  intro ps
  refine snoc_ind (p := fun ps => (∀ pq ∈ ps, beyB s b pq.1 = true ∧ beyB s b pq.2 = true) → lineS b ps = ([], [])) (fun _ => rfl) (fun l x ih h => ?_) ps
  unfold lineS at ih ⊢
  rw [List.foldl_append, ih (fun pq hpq => h pq (List.mem_append_left _ hpq))]
  obtain ⟨h1, h2⟩ := h x (by simp)
  show lineStep b ([], []) x = _
  unfold lineStep
  dsimp only
  rw [piece_bey hb h1 h2, beyB_not_in h1]
  rfl
theorem lineF_bey {s : Nat} {l : List Pt} {b : Bx} (h : ∀ p ∈ l, beyB s b p = true) : lineF l b = [] := by
  unfold lineF
  by_cases hp : propB l b = true
  · rw [if_pos hp]
    have hb := (propB_box hp).1
    have hup : BoxUp b := by
      unfold boxB at hb
      simp only [Bool.and_eq_true, decide_eq_true_eq] at hb
      exact hb.2
    rw [lineS_bey hup (pairs l) (fun pq hpq => ⟨h _ (pairs_mem hpq).1, h _ (pairs_mem hpq).2⟩)]
    rfl
  · rw [if_neg hp]

theorem cutF_bey {i : Nat} {b : Bx} {r : List Pt} (h : ∀ p ∈ r, limitC i b < coord i p) : cutF i b r = [] := by
  have hk : ∀ p ∈ r, keepsF i b p = false := fun p hp => by unfold keepsF; exact decide_eq_false (by have := h p hp; omega)
  unfold cutF
  have : ∀ k, k ≤ r.length → cutTo i b r k = [] := by
    intro k
    induction k with
    | zero => intro _; rfl
    | succ k ih =>
      intro hlt
      rw [cutTo_succ, ih (by omega)]
      unfold cutPair
      rw [hk _ (before_mem (by omega)), hk _ (getD_mem (by omega))]
      rfl
  exact this _ (Nat.le_refl _)
theorem cutF_nil (i : Nat) (b : Bx) : cutF i b [] = [] := rfl
theorem cuts_nil_from {b : Bx} {r : List Pt} {k : Nat} (h : cuts b r k = []) : ∀ m, cuts b r (k + m) = []
  | 0 => h
  | m + 1 => by
    show cutF (k + m) b (cuts b r (k + m)) = []
    rw [cuts_nil_from h m]; rfl
theorem ringF_bey {s : Nat} (hs : s < 4) {l : List Pt} {b : Bx} (h : ∀ p ∈ l, beyB s b p = true) : ringF l b = [] := by
  unfold ringF
  by_cases hp : propB l b = true
  · rw [if_pos hp]
    have hn := (propB_box hp).2
    rw [List.all_eq_true] at hn
    have hc : ∀ k, ∀ p ∈ cuts b l k, limitC s b < coord s p := by
      intro k
      have key : s = 0 ∨ s = 1 ∨ s = 2 ∨ s = 3 := by omega
      rcases key with rfl | rfl | rfl | rfl
      · have hw := cuts_within (b := b) (r := l) (lo := ⟨-2097152, -2097152⟩) (hi := ⟨b.lo.x - 1, 2097152⟩) (fun p hp => by
          have := nearB_iff.1 (hn p hp); have h1 := beyB_coord (h p hp)
          have h1' : -b.lo.x < -p.x := h1
          exact ⟨this.1, by show p.x ≤ b.lo.x - 1; omega, this.2.2.1, this.2.2.2⟩) k
        intro p hp
        have h2 : p.x ≤ b.lo.x - 1 := (hw p hp).2.1
        show -b.lo.x < -p.x
        omega
      · have hw := cuts_within (b := b) (r := l) (lo := ⟨b.hi.x + 1, -2097152⟩) (hi := ⟨2097152, 2097152⟩) (fun p hp => by
          have := nearB_iff.1 (hn p hp); have h1 := beyB_coord (h p hp)
          have h1' : b.hi.x < p.x := h1
          exact ⟨by show b.hi.x + 1 ≤ p.x; omega, this.2.1, this.2.2.1, this.2.2.2⟩) k
        intro p hp
        have h2 : b.hi.x + 1 ≤ p.x := (hw p hp).1
        show b.hi.x < p.x
        omega
      · have hw := cuts_within (b := b) (r := l) (lo := ⟨-2097152, -2097152⟩) (hi := ⟨2097152, b.lo.y - 1⟩) (fun p hp => by
          have := nearB_iff.1 (hn p hp); have h1 := beyB_coord (h p hp)
          have h1' : -b.lo.y < -p.y := h1
          exact ⟨this.1, this.2.1, this.2.2.1, by show p.y ≤ b.lo.y - 1; omega⟩) k
        intro p hp
        have h2 : p.y ≤ b.lo.y - 1 := (hw p hp).2.2.2
        show -b.lo.y < -p.y
        omega
      · have hw := cuts_within (b := b) (r := l) (lo := ⟨-2097152, b.hi.y + 1⟩) (hi := ⟨2097152, 2097152⟩) (fun p hp => by
          have := nearB_iff.1 (hn p hp); have h1 := beyB_coord (h p hp)
          have h1' : b.hi.y < p.y := h1
          exact ⟨this.1, this.2.1, by show b.hi.y + 1 ≤ p.y; omega, this.2.2.2⟩) k
        intro p hp
        have h2 : b.hi.y + 1 ≤ p.y := (hw p hp).2.2.1
        show b.hi.y < p.y
        omega
    have he : cuts b l (s + 1) = [] := cutF_bey (hc s)
    have := cuts_nil_from he (3 - s)
    rw [show s + 1 + (3 - s) = 4 by omega] at this
    rw [this]
    rfl
  · rw [if_neg hp]
end Go.Proofs.Ytadiajlegajclaa
