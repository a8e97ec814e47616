/- Pieces, characterized: the ratios of a segment within a box. No program is named. -/
import Derived.Test.YtadiajlegajclaaM3
namespace Go.Proofs.Ytadiajlegajclaa

def Ra.le (r s : Ra) : Prop := r.1 * s.2 ≤ s.1 * r.2
theorem Ra.less_iff {r s : Ra} : r.less s = true ↔ ¬ s.le r := by
  unfold Ra.less Ra.le
  rw [decide_eq_true_eq]; omega
theorem Ra.less_not {r s : Ra} : r.less s = false ↔ s.le r := by
  unfold Ra.less Ra.le
  rw [decide_eq_false_iff_not]; omega
theorem Ra.le_refl (r : Ra) : r.le r := Int.le_refl _
theorem Ra.le_total (r s : Ra) : r.le s ∨ s.le r := by unfold Ra.le; omega
theorem Ra.le_trans {a b c : Ra} (ha : 0 < a.2) (hb : 0 < b.2) (hc : 0 < c.2) (h1 : a.le b) (h2 : b.le c) : a.le c := by
  unfold Ra.le at *
  refine Int.le_of_mul_le_mul_right (a := b.2) ?_ hb
  calc a.1 * c.2 * b.2 = a.1 * b.2 * c.2 := by ac_rfl
    _ ≤ b.1 * a.2 * c.2 := Int.mul_le_mul_of_nonneg_right h1 (by omega)
    _ = b.1 * c.2 * a.2 := by ac_rfl
    _ ≤ c.1 * b.2 * a.2 := Int.mul_le_mul_of_nonneg_right h2 (by omega)
    _ = c.1 * a.2 * b.2 := by ac_rfl
theorem raOf_pos {a b : Int} (hb : b ≠ 0) : 0 < (raOf a b).2 := by
  unfold raOf
  split
  · show 0 < -b; omega
  · show 0 < b; omega

/-- The coordinate f + r d lies from l to m. -/
def dimOk (f d l m : Int) (r : Ra) : Prop := (l - f) * r.2 ≤ r.1 * d ∧ r.1 * d ≤ (m - f) * r.2

theorem max_le {s u r : Ra} (hs : 0 < s.2) (hu : 0 < u.2) (hr : 0 < r.2) : (if s.less u then u else s).le r ↔ s.le r ∧ u.le r := by
  cases h : s.less u with
  | true =>
    have h1 : s.le u := by rcases Ra.le_total s u with h' | h'; exact h'; exact absurd h' (Ra.less_iff.1 h)
    exact ⟨fun e => ⟨Ra.le_trans hs hu hr h1 e, e⟩, fun e => e.2⟩
  | false => exact ⟨fun e => ⟨e, Ra.le_trans hu hs hr (Ra.less_not.1 h) e⟩, fun e => e.1⟩
theorem le_min {t v r : Ra} (ht : 0 < t.2) (hv : 0 < v.2) (hr : 0 < r.2) : r.le (if v.less t then v else t) ↔ r.le t ∧ r.le v := by
  cases h : v.less t with
  | true =>
    have h1 : v.le t := by rcases Ra.le_total v t with h' | h'; exact h'; exact absurd h' (Ra.less_iff.1 h)
    exact ⟨fun e => ⟨Ra.le_trans hr hv ht e h1, e⟩, fun e => e.2⟩
  | false => exact ⟨fun e => ⟨e, Ra.le_trans hr ht hv e (Ra.less_not.1 h)⟩, fun e => e.1⟩

/-- The two ratios at which a coordinate crosses the limits, in order. -/
theorem cross_iff {f d l m : Int} {r : Ra} (_ : d ≠ 0) (hlm : l ≤ m) :
    (if (raOf (m - f) d).less (raOf (l - f) d) then raOf (m - f) d else raOf (l - f) d).le r ∧ r.le (if (raOf (m - f) d).less (raOf (l - f) d) then raOf (l - f) d else raOf (m - f) d) ↔ dimOk f d l m r := by
  unfold raOf
  by_cases h : d < 0
  · simp only [if_pos h]
    have e1 : Ra.le (-(m - f), -d) r ↔ r.1 * d ≤ (m - f) * r.2 := by
      show -(m - f) * r.2 ≤ r.1 * -d ↔ _
      rw [Int.neg_mul, Int.mul_neg]; omega
    have e2 : Ra.le r (-(l - f), -d) ↔ (l - f) * r.2 ≤ r.1 * d := by
      show r.1 * -d ≤ -(l - f) * r.2 ↔ _
      rw [Int.neg_mul, Int.mul_neg]; omega
    cases hl : Ra.less (-(m - f), -d) (-(l - f), -d) with
    | true =>
      simp only [if_pos]
      rw [e1, e2]
      unfold dimOk
      exact And.comm
    | false =>
      have h1 := Ra.less_not.1 hl
      unfold Ra.le at h1
      have h2 : -(l - f) ≤ -(m - f) := Int.le_of_mul_le_mul_right (a := -d) h1 (by omega)
      have h3 : l = m := by omega
      subst h3
      simp only [Bool.false_eq_true, if_false]
      rw [e1, e2]
      unfold dimOk
      exact And.comm
  · simp only [if_neg h]
    have hl : Ra.less (m - f, d) (l - f, d) = false := by
      rw [Ra.less_not]
      show (l - f) * d ≤ (m - f) * d
      exact Int.mul_le_mul_of_nonneg_right (by omega) (by omega)
    rw [hl]
    exact Iff.rfl

/-- The ratios that a state of bound lets in. -/
def LetIn (s : Ra × Ra × Bool) (r : Ra) : Prop := s.2.2 = true ∧ s.1.le r ∧ r.le s.2.1
structure Pos2 (s : Ra × Ra × Bool) : Prop where
  lo : 0 < s.1.2
  hi : 0 < s.2.1.2
theorem bndF_pos {s : Ra × Ra × Bool} (h : Pos2 s) (f d l m : Int) : Pos2 (bndF s f d l m) := by
  unfold bndF
  split
  · exact ⟨h.lo, h.hi⟩
  · rename_i hd
    have h1 := raOf_pos (a := l - f) hd
    have h2 := raOf_pos (a := m - f) hd
    obtain ⟨h3, h4⟩ := h
    dsimp only
    constructor
    · show 0 < (if _ then _ else _ : Ra).2
      split <;> (try split) <;> assumption
    · show 0 < (if _ then _ else _ : Ra).2
      split <;> (try split) <;> assumption
theorem bndF_iff {s : Ra × Ra × Bool} (h : Pos2 s) {f d l m : Int} (hlm : l ≤ m) {r : Ra} (hr : 0 < r.2) : LetIn (bndF s f d l m) r ↔ LetIn s r ∧ dimOk f d l m r := by
  unfold bndF
  split
  · rename_i hd
    subst hd
    unfold LetIn dimOk
    simp only [Bool.and_eq_true, decide_eq_true_eq, Int.mul_zero]
    have e1 : (l - f) * r.2 ≤ 0 ↔ l ≤ f := by
      constructor
      · intro e
        by_cases hc : l ≤ f
        · exact hc
        · have := Int.mul_pos (show 0 < l - f by omega) hr
          omega
      · intro e
        exact Int.mul_nonpos_of_nonpos_of_nonneg (by omega) (by omega)
    have e2 : 0 ≤ (m - f) * r.2 ↔ f ≤ m := by
      constructor
      · intro e
        by_cases hc : f ≤ m
        · exact hc
        · have := Int.mul_neg_of_neg_of_pos (show m - f < 0 by omega) hr
          omega
      · intro e
        exact Int.mul_nonneg (by omega) (by omega)
    rw [e1, e2]
    constructor
    · rintro ⟨⟨⟨h1, h2⟩, h3⟩, h4, h5⟩; exact ⟨⟨h1, h4, h5⟩, h2, h3⟩
    · rintro ⟨⟨h1, h4, h5⟩, h2, h3⟩; exact ⟨⟨⟨h1, h2⟩, h3⟩, h4, h5⟩
  · rename_i hd
    have h1 := raOf_pos (a := l - f) hd
    have h2 := raOf_pos (a := m - f) hd
    have hc := cross_iff (f := f) (r := r) hd hlm
    have hu : 0 < (if (raOf (m - f) d).less (raOf (l - f) d) then raOf (m - f) d else raOf (l - f) d).2 := by split <;> assumption
    have hv : 0 < (if (raOf (m - f) d).less (raOf (l - f) d) then raOf (l - f) d else raOf (m - f) d).2 := by split <;> assumption
    have m1 := max_le h.lo hu hr
    have m2 := le_min h.hi hv hr
    unfold LetIn
    dsimp only
    rw [m1, m2, ← hc]
    constructor
    · rintro ⟨a, ⟨b, c⟩, d, e⟩; exact ⟨⟨a, b, d⟩, c, e⟩
    · rintro ⟨⟨a, b, d⟩, c, e⟩; exact ⟨a, ⟨b, c⟩, d, e⟩

/-- The ratios of the segment from p to q that lie in b. -/
def InSeg (p q : Pt) (b : Bx) (r : Ra) : Prop := r.unit ∧ dimOk p.x (q.x - p.x) b.lo.x b.hi.x r ∧ dimOk p.y (q.y - p.y) b.lo.y b.hi.y r
def BoxUp (b : Bx) : Prop := b.lo.x ≤ b.hi.x ∧ b.lo.y ≤ b.hi.y
theorem boxB_up {b : Bx} (h : boxB b = true) : BoxUp b := by
  unfold boxB at h
  simp only [Bool.and_eq_true, decide_eq_true_eq] at h
  exact h.2
theorem start_pos : Pos2 ((0, 1), (1, 1), true) := ⟨by decide, by decide⟩
theorem bnds_pos (p q : Pt) (b : Bx) : Pos2 (bnds p q b) := bndF_pos (bndF_pos start_pos _ _ _ _) _ _ _ _
theorem bnds_iff {p q : Pt} {b : Bx} (hb : BoxUp b) {r : Ra} (hr : 0 < r.2) : LetIn (bnds p q b) r ↔ InSeg p q b r := by
  unfold bnds
  rw [bndF_iff (bndF_pos start_pos _ _ _ _) hb.2 hr, bndF_iff start_pos hb.1 hr]
  unfold InSeg LetIn Ra.unit Ra.le
  simp only [Int.zero_mul, Int.mul_one, Int.one_mul, true_and]
  constructor
  · rintro ⟨⟨⟨a, b⟩, c⟩, d⟩; exact ⟨⟨hr, a, b⟩, c, d⟩
  · rintro ⟨⟨_, a, b⟩, c, d⟩; exact ⟨⟨⟨a, b⟩, c⟩, d⟩

theorem rnd_congr {a b c d : Int} (hb : 0 < b) (hd : 0 < d) (h : a * d = c * b) : rnd a b = rnd c d := by
  have one : ∀ {a b c d : Int}, 0 < b → 0 < d → a * d = c * b → rnd a b ≤ rnd c d := by
    intro a b c d hb hd h
    unfold rnd
    refine Int.le_ediv_of_mul_le (by omega) ?_
    have h1 : (2 * a + b) / (2 * b) * (2 * b) ≤ 2 * a + b := Int.ediv_mul_le _ (by omega)
    generalize (2 * a + b) / (2 * b) = k at h1 ⊢
    refine Int.le_of_mul_le_mul_right (a := b) ?_ hb
    calc k * (2 * d) * b = k * (2 * b) * d := by ac_rfl
      _ ≤ (2 * a + b) * d := Int.mul_le_mul_of_nonneg_right h1 (by omega)
      _ = 2 * (a * d) + b * d := by rw [Int.add_mul, Int.mul_assoc]
      _ = 2 * (c * b) + d * b := by rw [h, Int.mul_comm b d]
      _ = (2 * c + d) * b := by rw [Int.add_mul, Int.mul_assoc]
  exact Int.le_antisymm (one hb hd h) (one hd hb h.symm)
theorem ptAt_congr {p : Pt} {dx dy : Int} {s t : Ra} (hs : 0 < s.2) (ht : 0 < t.2) (h1 : s.le t) (h2 : t.le s) : ptAt p dx dy s = ptAt p dx dy t := by
  have e : s.1 * t.2 = t.1 * s.2 := Int.le_antisymm h1 h2
  have f : ∀ d, rnd (s.1 * d) s.2 = rnd (t.1 * d) t.2 := fun d => rnd_congr hs ht (by
    calc s.1 * d * t.2 = s.1 * t.2 * d := by ac_rfl
      _ = t.1 * s.2 * d := by rw [e]
      _ = t.1 * d * s.2 := by ac_rfl)
  unfold ptAt
  rw [f, f]

/-- A piece: its first and its last ratio. -/
structure IsPiece (p q : Pt) (b : Bx) (s t : Ra) : Prop where
  s_in : InSeg p q b s
  t_in : InSeg p q b t
  least : ∀ r, InSeg p q b r → s.le r
  most : ∀ r, InSeg p q b r → r.le t
theorem IsPiece.pts {p q : Pt} {b : Bx} {s t s' t' : Ra} (h : IsPiece p q b s t) (h' : IsPiece p q b s' t') (dx dy : Int) (o : Pt) : ptAt o dx dy s = ptAt o dx dy s' ∧ ptAt o dx dy t = ptAt o dx dy t' :=
  ⟨ptAt_congr h.s_in.1.1 h'.s_in.1.1 (h.least _ h'.s_in) (h'.least _ h.s_in), ptAt_congr h.t_in.1.1 h'.t_in.1.1 (h'.most _ h.t_in) (h.most _ h'.t_in)⟩
theorem piece_ok {p q : Pt} {b : Bx} (hb : BoxUp b) (h : (pieceF p q b).2.2 = true) : ∃ s t, IsPiece p q b s t ∧ pieceF p q b = (ptAt p (q.x - p.x) (q.y - p.y) s, ptAt p (q.x - p.x) (q.y - p.y) t, true) := by
  have hp := bnds_pos p q b
  have h' : (bnds p q b).2.2 = true ∧ (bnds p q b).1.le (bnds p q b).2.1 := by
    have : ((bnds p q b).2.2 && !(Ra.less (bnds p q b).2.1 (bnds p q b).1)) = true := h
    rw [Bool.and_eq_true, Bool.not_eq_true', Ra.less_not] at this
    exact this
  refine ⟨(bnds p q b).1, (bnds p q b).2.1, ⟨(bnds_iff hb hp.lo).1 ⟨h'.1, Ra.le_refl _, h'.2⟩, (bnds_iff hb hp.hi).1 ⟨h'.1, h'.2, Ra.le_refl _⟩, fun r hr => ((bnds_iff hb hr.1.1).2 hr).2.1, fun r hr => ((bnds_iff hb hr.1.1).2 hr).2.2⟩, ?_⟩
  rw [← h]
  rfl
theorem piece_of {p q : Pt} {b : Bx} (hb : BoxUp b) {r : Ra} (h : InSeg p q b r) : (pieceF p q b).2.2 = true := by
  have hp := bnds_pos p q b
  obtain ⟨h1, h2, h3⟩ := (bnds_iff hb h.1.1).2 h
  show ((bnds p q b).2.2 && !(Ra.less (bnds p q b).2.1 (bnds p q b).1)) = true
  rw [Bool.and_eq_true, Bool.not_eq_true', Ra.less_not]
  exact ⟨h1, Ra.le_trans hp.lo h.1.1 hp.hi h2 h3⟩
theorem piece_eq {p q : Pt} {b : Bx} (hb : BoxUp b) {s t : Ra} (h : IsPiece p q b s t) : pieceF p q b = (ptAt p (q.x - p.x) (q.y - p.y) s, ptAt p (q.x - p.x) (q.y - p.y) t, true) := by
  obtain ⟨s', t', h', e⟩ := piece_ok hb (piece_of hb h.s_in)
  obtain ⟨e1, e2⟩ := h.pts h' (q.x - p.x) (q.y - p.y) p
  rw [e, e1, e2]

theorem inSeg_in {p q : Pt} {b : Bx} {r : Ra} (h : InSeg p q b r) : inB (ptAt p (q.x - p.x) (q.y - p.y) r) b = true := by
  obtain ⟨hu, ⟨h1, h2⟩, h3, h4⟩ := h
  rw [inB_iff]
  have a1 := le_rnd hu.1 h1
  have a2 := rnd_le hu.1 h2
  have a3 := le_rnd hu.1 h3
  have a4 := rnd_le hu.1 h4
  unfold ptAt
  dsimp only
  omega
theorem piece_in {p q : Pt} {b : Bx} (hb : BoxUp b) (h : (pieceF p q b).2.2 = true) : inB (pieceF p q b).1 b = true ∧ inB (pieceF p q b).2.1 b = true := by
  obtain ⟨s, t, hst, e⟩ := piece_ok hb h
  rw [e]
  exact ⟨inSeg_in hst.s_in, inSeg_in hst.t_in⟩

/-- An end in the box is the piece's end. -/
theorem zero_in {p q : Pt} {b : Bx} (h : inB p b = true) : InSeg p q b (0, 1) := by
  rw [inB_iff] at h
  refine ⟨⟨by decide, by decide, by decide⟩, ⟨?_, ?_⟩, ?_, ?_⟩ <;> simp only [Int.zero_mul, Int.mul_one] <;> omega
theorem one_in {p q : Pt} {b : Bx} (h : inB q b = true) : InSeg p q b (1, 1) := by
  rw [inB_iff] at h
  refine ⟨⟨by decide, by decide, by decide⟩, ⟨?_, ?_⟩, ?_, ?_⟩ <;> simp only [Int.one_mul, Int.mul_one] <;> omega
theorem ptAt_zero (p : Pt) (dx dy : Int) : ptAt p dx dy (0, 1) = p := by
  unfold ptAt
  rw [Int.zero_mul, Int.zero_mul, rnd_zero (by decide), Int.add_zero, Int.add_zero]
theorem ptAt_one (p q : Pt) : ptAt p (q.x - p.x) (q.y - p.y) (1, 1) = q := by
  unfold ptAt
  have e : ∀ d, rnd (1 * d) 1 = d := fun d => by
    have := rnd_exact (b := 1) (by decide) d
    rw [Int.mul_one] at this
    rw [Int.one_mul, this]
  rw [e, e]
  exact Pt.ext_ (by show _ + _ = _; omega) (by show _ + _ = _; omega)
theorem piece_from {p q : Pt} {b : Bx} (hb : BoxUp b) (h : inB p b = true) : (pieceF p q b).2.2 = true ∧ (pieceF p q b).1 = p := by
  have h0 := zero_in (q := q) h
  have hk := piece_of hb h0
  obtain ⟨s, t, hst, e⟩ := piece_ok hb hk
  refine ⟨hk, ?_⟩
  rw [e]
  show ptAt _ _ _ s = p
  rw [ptAt_congr (t := (0, 1)) hst.s_in.1.1 (by decide) (hst.least _ h0) (by
    show 0 * s.2 ≤ s.1 * 1
    have := hst.s_in.1.2.1
    omega), ptAt_zero]
theorem piece_to {p q : Pt} {b : Bx} (hb : BoxUp b) (h : inB q b = true) : (pieceF p q b).2.2 = true ∧ (pieceF p q b).2.1 = q := by
  have h0 := one_in (p := p) h
  have hk := piece_of hb h0
  obtain ⟨s, t, hst, e⟩ := piece_ok hb hk
  refine ⟨hk, ?_⟩
  rw [e]
  show ptAt _ _ _ t = q
  rw [ptAt_congr (t := (1, 1)) hst.t_in.1.1 (by decide) (by
    show t.1 * 1 ≤ 1 * t.2
    have := hst.t_in.1.2.2
    omega) (hst.most _ h0), ptAt_one]
/-- No piece where both ends are beyond a side. -/
theorem piece_beyond {p q : Pt} {b : Bx} (hb : BoxUp b) (h : (p.x < b.lo.x ∧ q.x < b.lo.x) ∨ (b.hi.x < p.x ∧ b.hi.x < q.x) ∨ (p.y < b.lo.y ∧ q.y < b.lo.y) ∨ (b.hi.y < p.y ∧ b.hi.y < q.y)) : (pieceF p q b).2.2 = false := by
  cases hk : (pieceF p q b).2.2 with
  | false => rfl
  | true =>
    exfalso
    obtain ⟨s, t, hst, _⟩ := piece_ok hb hk
    obtain ⟨⟨u1, u2, u3⟩, ⟨h1, h2⟩, h3, h4⟩ := hst.s_in
    have lt : ∀ {f g l : Int}, f < l → g < l → ¬ (l - f) * s.2 ≤ s.1 * (g - f) := by
      intro f g l e1 e2 e3
      have a : s.1 * (g - f) ≤ s.1 * (l - f - 1) := Int.mul_le_mul_of_nonneg_left (by omega) u2
      have a' : s.1 * (l - f - 1) ≤ s.2 * (l - f - 1) := Int.mul_le_mul_of_nonneg_right u3 (by omega)
      have c : s.2 * (l - f - 1) = (l - f) * s.2 - s.2 := by rw [Int.mul_sub, Int.mul_one, Int.mul_comm]
      omega
    have gt : ∀ {f g m : Int}, m < f → m < g → ¬ s.1 * (g - f) ≤ (m - f) * s.2 := by
      intro f g m e1 e2 e3
      have a : s.1 * (m - f + 1) ≤ s.1 * (g - f) := Int.mul_le_mul_of_nonneg_left (by omega) u2
      have a' : s.2 * (m - f + 1) ≤ s.1 * (m - f + 1) := Int.mul_le_mul_of_nonpos_right u3 (by omega)
      have c : s.2 * (m - f + 1) = (m - f) * s.2 + s.2 := by rw [Int.mul_add, Int.mul_one, Int.mul_comm]
      omega
    rcases h with h | h | h | h
    · exact lt h.1 h.2 h1
    · exact gt h.1 h.2 h2
    · exact lt h.1 h.2 h3
    · exact gt h.1 h.2 h4
end Go.Proofs.Ytadiajlegajclaa
