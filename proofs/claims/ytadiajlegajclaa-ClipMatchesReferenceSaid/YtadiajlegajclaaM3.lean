/- Rounding; cuts of a ring. No program is named. -/
import Derived.Test.YtadiajlegajclaaM2
namespace Go.Proofs.Ytadiajlegajclaa

theorem rnd_le {a b k : Int} (hb : 0 < b) (h : a ≤ k * b) : rnd a b ≤ k := by
  unfold rnd
  refine Int.le_of_lt_add_one (Int.ediv_lt_of_lt_mul (by omega) ?_)
  have e : (k + 1) * (2 * b) = 2 * (k * b) + 2 * b := by rw [Int.add_mul, Int.one_mul, Int.mul_left_comm]
  rw [e]; omega
theorem le_rnd {a b k : Int} (hb : 0 < b) (h : k * b ≤ a) : k ≤ rnd a b := by
  unfold rnd
  refine Int.le_ediv_of_mul_le (by omega) ?_
  have e : k * (2 * b) = 2 * (k * b) := Int.mul_left_comm _ _ _
  rw [e]; omega
theorem rnd_exact {b : Int} (hb : 0 < b) (k : Int) : rnd (k * b) b = k :=
  Int.le_antisymm (rnd_le hb (Int.le_refl _)) (le_rnd hb (Int.le_refl _))
theorem rnd_zero {b : Int} (hb : 0 < b) : rnd 0 b = 0 := by
  have := rnd_exact hb 0
  rwa [Int.zero_mul] at this

/-- A ratio from 0 to 1. -/
def Ra.unit (r : Ra) : Prop := 0 < r.2 ∧ 0 ≤ r.1 ∧ r.1 ≤ r.2
theorem rnd_unit {r : Ra} (h : r.unit) (d : Int) : (0 ≤ d → 0 ≤ rnd (r.1 * d) r.2 ∧ rnd (r.1 * d) r.2 ≤ d) ∧ (d ≤ 0 → d ≤ rnd (r.1 * d) r.2 ∧ rnd (r.1 * d) r.2 ≤ 0) := by
  obtain ⟨h1, h2, h3⟩ := h
  refine ⟨fun hd => ⟨le_rnd h1 ?_, rnd_le h1 ?_⟩, fun hd => ⟨le_rnd h1 ?_, rnd_le h1 ?_⟩⟩
  · rw [Int.zero_mul]; exact Int.mul_nonneg h2 hd
  · rw [Int.mul_comm d]; exact Int.mul_le_mul_of_nonneg_right h3 hd
  · rw [Int.mul_comm d]; exact Int.mul_le_mul_of_nonpos_right h3 hd
  · rw [Int.zero_mul]; exact Int.mul_nonpos_of_nonneg_of_nonpos h2 hd
/-- A point between two is near if they are. -/
theorem ptAt_between {p q : Pt} {r : Ra} (h : r.unit) {lo hi : Int} :
    (lo ≤ p.x → p.x ≤ hi → lo ≤ q.x → q.x ≤ hi → lo ≤ (ptAt p (q.x - p.x) (q.y - p.y) r).x ∧ (ptAt p (q.x - p.x) (q.y - p.y) r).x ≤ hi) ∧
    (lo ≤ p.y → p.y ≤ hi → lo ≤ q.y → q.y ≤ hi → lo ≤ (ptAt p (q.x - p.x) (q.y - p.y) r).y ∧ (ptAt p (q.x - p.x) (q.y - p.y) r).y ≤ hi) := by
  unfold ptAt
  refine ⟨fun a b c d => ?_, fun a b c d => ?_⟩
  · obtain ⟨h1, h2⟩ := rnd_unit h (q.x - p.x)
    simp only
    by_cases hd : 0 ≤ q.x - p.x
    · have := h1 hd; omega
    · have := h2 (by omega); omega
  · obtain ⟨h1, h2⟩ := rnd_unit h (q.y - p.y)
    simp only
    by_cases hd : 0 ≤ q.y - p.y
    · have := h1 hd; omega
    · have := h2 (by omega); omega

/-- The coordinate that cut i looks at, and its limit. -/
def coord (i : Nat) (p : Pt) : Int := if i = 0 then -p.x else if i = 1 then p.x else if i = 2 then -p.y else p.y
def limitC (i : Nat) (b : Bx) : Int := if i = 0 then -b.lo.x else if i = 1 then b.hi.x else if i = 2 then -b.lo.y else b.hi.y
def keepsF (i : Nat) (b : Bx) (p : Pt) : Bool := decide (coord i p ≤ limitC i b)
def acrossR (i : Nat) (b : Bx) (p q : Pt) : Ra := raOf (limitC i b - coord i p) (coord i q - coord i p)
def acrossF (i : Nat) (b : Bx) (p q : Pt) : Pt := ptAt p (q.x - p.x) (q.y - p.y) (acrossR i b p q)
/-- What a cut makes of the pair p, q. -/
def cutPair (i : Nat) (b : Bx) (p q : Pt) : List Pt := (if keepsF i b p != keepsF i b q then [acrossF i b p q] else []) ++ (if keepsF i b q then [q] else [])
/-- The point before place k of a ring. -/
def before (r : List Pt) (k : Nat) : Pt := r.getD ((k + r.length - 1) % r.length) ⟨0, 0⟩
def cutTo (i : Nat) (b : Bx) (r : List Pt) (k : Nat) : List Pt := (List.range k).flatMap fun j => cutPair i b (before r j) (r.getD j ⟨0, 0⟩)
def cutF (i : Nat) (b : Bx) (r : List Pt) : List Pt := cutTo i b r r.length
def cuts (b : Bx) (r : List Pt) : Nat → List Pt
  | 0 => r
  | k + 1 => cutF k b (cuts b r k)
/-- The last points that equal the first one are dropped. -/
def trim (r : List Pt) : Nat → List Pt
  | 0 => r
  | k + 1 => if 1 < r.length ∧ r.head? = r.getLast? then trim r.dropLast k else r
def aroundF (r : List Pt) : List Pt := if (trim (dd r) (dd r).length).length < 3 then [] else trim (dd r) (dd r).length
def ringF (l : List Pt) (b : Bx) : List Pt := if propB l b then aroundF (cuts b l 4) else []

theorem cutTo_succ (i : Nat) (b : Bx) (r : List Pt) (k : Nat) : cutTo i b r (k + 1) = cutTo i b r k ++ cutPair i b (before r k) (r.getD k ⟨0, 0⟩) := by
  unfold cutTo
  rw [List.range_succ, List.flatMap_append]
  simp
theorem cutPair_len (i : Nat) (b : Bx) (p q : Pt) : (cutPair i b p q).length ≤ 2 := by
  unfold cutPair
  rw [List.length_append]
  split <;> split <;> simp
theorem cutTo_len (i : Nat) (b : Bx) (r : List Pt) : ∀ k, (cutTo i b r k).length ≤ 2 * k
  | 0 => by simp [cutTo]
  | k + 1 => by
    rw [cutTo_succ, List.length_append]
    have h1 := cutTo_len i b r k
    have h2 := cutPair_len i b (before r k) (r.getD k ⟨0, 0⟩)
    omega
theorem cuts_len (b : Bx) (r : List Pt) : ∀ k, (cuts b r k).length ≤ 2 ^ k * r.length
  | 0 => by simp [cuts]
  | k + 1 => by
    have h1 := cuts_len b r k
    have h2 := cutTo_len k b (cuts b r k) (cuts b r k).length
    show (cutTo k b (cuts b r k) (cuts b r k).length).length ≤ _
    rw [Nat.pow_succ]
    have e : 2 ^ k * 2 * r.length = 2 * (2 ^ k * r.length) := by rw [Nat.mul_comm (2 ^ k) 2, Nat.mul_assoc]
    omega

/-- Between two points on different sides the ratio is from 0 to 1. -/
theorem acrossR_unit {i : Nat} {b : Bx} {p q : Pt} (h : (keepsF i b p != keepsF i b q) = true) : (acrossR i b p q).unit ∧ coord i q - coord i p ≠ 0 := by
  unfold keepsF at h
  unfold acrossR raOf Ra.unit
  by_cases hp : coord i p ≤ limitC i b
  · by_cases hq : coord i q ≤ limitC i b
    · rw [decide_eq_true hp, decide_eq_true hq] at h; cases h
    · rw [if_neg (by omega)]
      exact ⟨⟨by show 0 < coord i q - coord i p; omega, by show 0 ≤ limitC i b - coord i p; omega, by show limitC i b - coord i p ≤ coord i q - coord i p; omega⟩, by omega⟩
  · by_cases hq : coord i q ≤ limitC i b
    · rw [if_pos (by omega)]
      exact ⟨⟨by show 0 < -(coord i q - coord i p); omega, by show 0 ≤ -(limitC i b - coord i p); omega, by show -(limitC i b - coord i p) ≤ -(coord i q - coord i p); omega⟩, by omega⟩
    · rw [decide_eq_false hp, decide_eq_false hq] at h; cases h

/-- What lies between bounds stays there. -/
def Within (lo hi : Pt) (p : Pt) : Prop := lo.x ≤ p.x ∧ p.x ≤ hi.x ∧ lo.y ≤ p.y ∧ p.y ≤ hi.y
theorem before_mem {r : List Pt} {k : Nat} (hk : k < r.length) : before r k ∈ r := by
  unfold before
  have h : (k + r.length - 1) % r.length < r.length := Nat.mod_lt _ (by omega)
  rw [List.getD_eq_getElem?_getD, List.getElem?_eq_getElem h]
  exact List.getElem_mem h
theorem getD_mem {r : List Pt} {k : Nat} (hk : k < r.length) : r.getD k ⟨0, 0⟩ ∈ r := by
  rw [List.getD_eq_getElem?_getD, List.getElem?_eq_getElem hk]
  exact List.getElem_mem hk
theorem acrossF_within {i : Nat} {b : Bx} {p q lo hi : Pt} (h : (keepsF i b p != keepsF i b q) = true) (hp : Within lo hi p) (hq : Within lo hi q) : Within lo hi (acrossF i b p q) := by
  obtain ⟨hu, _⟩ := acrossR_unit h
  obtain ⟨p1, p2, p3, p4⟩ := hp
  obtain ⟨q1, q2, q3, q4⟩ := hq
  obtain ⟨a1, a2⟩ := (ptAt_between (p := p) (q := q) hu (lo := lo.x) (hi := hi.x)).1 p1 p2 q1 q2
  obtain ⟨a3, a4⟩ := (ptAt_between (p := p) (q := q) hu (lo := lo.y) (hi := hi.y)).2 p3 p4 q3 q4
  exact ⟨a1, a2, a3, a4⟩
theorem cutPair_within {i : Nat} {b : Bx} {p q lo hi : Pt} (hp : Within lo hi p) (hq : Within lo hi q) : ∀ x ∈ cutPair i b p q, Within lo hi x := by
  intro x hx
  unfold cutPair at hx
  rcases List.mem_append.1 hx with hx | hx
  · split at hx
    · rename_i h
      simp at hx; subst hx
      exact acrossF_within h hp hq
    · simp at hx
  · split at hx
    · simp at hx; subst hx; exact hq
    · simp at hx
theorem cutTo_within {i : Nat} {b : Bx} {r : List Pt} {lo hi : Pt} (hr : ∀ p ∈ r, Within lo hi p) : ∀ k, k ≤ r.length → ∀ x ∈ cutTo i b r k, Within lo hi x
  | 0, _, x, hx => by simp [cutTo] at hx
  | k + 1, hk, x, hx => by
    rw [cutTo_succ] at hx
    rcases List.mem_append.1 hx with hx | hx
    · exact cutTo_within hr k (by omega) x hx
    · exact cutPair_within (hr _ (before_mem (by omega))) (hr _ (getD_mem (by omega))) x hx
theorem cuts_within {b : Bx} {r : List Pt} {lo hi : Pt} (hr : ∀ p ∈ r, Within lo hi p) : ∀ k, ∀ x ∈ cuts b r k, Within lo hi x
  | 0, x, hx => hr x hx
  | k + 1, x, hx => cutTo_within (cuts_within hr k) _ (Nat.le_refl _) x hx

end Go.Proofs.Ytadiajlegajclaa
