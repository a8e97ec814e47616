/- The reference's pieces are the program's. -/
import Derived.Test.YtadiajlegajclaaP7
import Derived.Test.YtadiajlegajclaaR3
set_option linter.unusedSimpArgs false
set_option linter.unusedVariables false
namespace Go.Proofs.Ytadiajlegajclaa

theorem bnd_same {f d l m : Int} (hlm : l ≤ m) (low high : Ra) (k : Bool) :
    bndF (low, high, k) f d l m = ((rBound f d l m low high).1, (rBound f d l m low high).2.1, k && (decide (d ≠ 0) || (decide (l ≤ f) && decide (f ≤ m)))) := by
  unfold bndF rBound
  by_cases h0 : d = 0
  · rw [if_pos h0, if_pos h0]
    subst h0
    simp [Bool.and_assoc]
  · rw [if_neg h0, if_neg h0]
    have hk : (k && (decide (d ≠ 0) || (decide (l ≤ f) && decide (f ≤ m)))) = k := by rw [decide_eq_true h0]; simp
    rw [hk]
    dsimp only
    by_cases hn : d < 0
    · have eu : raOf (l - f) d = (f - l, -d) := by unfold raOf; rw [if_pos hn]; congr 1; omega
      have ev : raOf (m - f) d = (f - m, -d) := by unfold raOf; rw [if_pos hn]; congr 1; omega
      have ef : rFrom f d l m = (f - m, -d) := by unfold rFrom; rw [if_pos hn]
      have et : rTo f d l m = (f - l, -d) := by unfold rTo; rw [if_pos hn]
      rw [eu, ev, ef, et]
      by_cases he : l = m
      · subst he
        simp
      · have hl : Ra.less (f - m, -d) (f - l, -d) = true := by
          unfold Ra.less
          rw [decide_eq_true_eq]
          exact Int.mul_lt_mul_of_pos_right (show f - m < f - l by omega) (show 0 < -d by omega)
        rw [hl]
        simp
    · have eu : raOf (l - f) d = (l - f, d) := by unfold raOf; rw [if_neg hn]
      have ev : raOf (m - f) d = (m - f, d) := by unfold raOf; rw [if_neg hn]
      have ef : rFrom f d l m = (l - f, d) := by unfold rFrom; rw [if_neg hn]
      have et : rTo f d l m = (m - f, d) := by unfold rTo; rw [if_neg hn]
      rw [eu, ev, ef, et]
      have hl : Ra.less (m - f, d) (l - f, d) = false := by
        rw [Ra.less_not]
        exact Int.mul_le_mul_of_nonneg_right (show l - f ≤ m - f by omega) (show 0 ≤ d by omega)
      rw [hl]
      simp
theorem rBound_third (f d l m : Int) (low high : Ra) : (rBound f d l m low high).2.2 = if d = 0 then decide (l ≤ f) && decide (f ≤ m) else !(Ra.less (rBound f d l m low high).2.1 (rBound f d l m low high).1) := by
  unfold rBound
  split <;> rfl
theorem rPiece_same {p q : Pt} {b : Bx} (hb : BoxUp b) : (rPiece p q b).2.2 = (pieceF p q b).2.2 ∧ ((rPiece p q b).2.2 = true → rPiece p q b = pieceF p q b) := by
  obtain ⟨r1, hr1⟩ : ∃ r, r = rBound p.x (q.x - p.x) b.lo.x b.hi.x (0, 1) (1, 1) := ⟨_, rfl⟩
  have h1 := bnd_same (f := p.x) (d := q.x - p.x) hb.1 (0, 1) (1, 1) true
  rw [← hr1] at h1
  have h2 := bnd_same (f := p.y) (d := q.y - p.y) hb.2 r1.1 r1.2.1 (decide (q.x - p.x ≠ 0) || (decide (b.lo.x ≤ p.x) && decide (p.x ≤ b.hi.x)))
  obtain ⟨r2, hr2⟩ : ∃ r, r = rBound p.y (q.y - p.y) b.lo.y b.hi.y r1.1 r1.2.1 := ⟨_, rfl⟩
  rw [← hr2] at h2
  have hs : bnds p q b = (r2.1, r2.2.1, (decide (q.x - p.x ≠ 0) || (decide (b.lo.x ≤ p.x) && decide (p.x ≤ b.hi.x))) && (decide (q.y - p.y ≠ 0) || (decide (b.lo.y ≤ p.y) && decide (p.y ≤ b.hi.y)))) := by
    unfold bnds
    rw [h1, Bool.true_and, h2]
  have hp : pieceF p q b = (ptAt p (q.x - p.x) (q.y - p.y) r2.1, ptAt p (q.x - p.x) (q.y - p.y) r2.2.1, ((decide (q.x - p.x ≠ 0) || (decide (b.lo.x ≤ p.x) && decide (p.x ≤ b.hi.x))) && (decide (q.y - p.y ≠ 0) || (decide (b.lo.y ≤ p.y) && decide (p.y ≤ b.hi.y)))) && !(Ra.less r2.2.1 r2.1)) := by
    unfold pieceF
    rw [hs]
  have hq : rPiece p q b = if r1.2.2 then (ptAt p (q.x - p.x) (q.y - p.y) r2.1, ptAt p (q.x - p.x) (q.y - p.y) r2.2.1, r2.2.2) else (p, q, false) := by
    unfold rPiece
    dsimp only
    rw [← hr1, ← hr2]
  have t1 := rBound_third p.x (q.x - p.x) b.lo.x b.hi.x (0, 1) (1, 1)
  rw [← hr1] at t1
  have t2 := rBound_third p.y (q.y - p.y) b.lo.y b.hi.y r1.1 r1.2.1
  rw [← hr2] at t2
  cases ok : r1.2.2 with
  | true =>
    rw [ok] at t1 hq
    rw [if_pos rfl] at hq
    have e1 : (decide (q.x - p.x ≠ 0) || (decide (b.lo.x ≤ p.x) && decide (p.x ≤ b.hi.x))) = true := by
      by_cases h0 : q.x - p.x = 0
      · rw [if_pos h0] at t1; rw [← t1]; simp
      · rw [decide_eq_true h0]; rfl
    have less1 : Ra.less r1.2.1 r1.1 = false := by
      by_cases h0 : q.x - p.x = 0
      · rw [hr1]; unfold rBound; rw [if_pos h0]; show Ra.less (1, 1) (0, 1) = false; decide
      · rw [if_neg h0] at t1
        cases hh : Ra.less r1.2.1 r1.1 with
        | false => rfl
        | true => rw [hh] at t1; cases t1
    have e2 : r2.2.2 = (((decide (q.x - p.x ≠ 0) || (decide (b.lo.x ≤ p.x) && decide (p.x ≤ b.hi.x))) && (decide (q.y - p.y ≠ 0) || (decide (b.lo.y ≤ p.y) && decide (p.y ≤ b.hi.y)))) && !(Ra.less r2.2.1 r2.1)) := by
      rw [e1, Bool.true_and, t2]
      by_cases h0 : q.y - p.y = 0
      · have e3 : r2.1 = r1.1 ∧ r2.2.1 = r1.2.1 := by rw [hr2]; unfold rBound; rw [if_pos h0]; exact ⟨rfl, rfl⟩
        rw [if_pos h0, e3.1, e3.2, less1, decide_eq_false (show ¬ (q.y - p.y ≠ 0) from fun h => h h0)]
        simp
      · rw [if_neg h0, decide_eq_true h0]; simp
    rw [hq, hp, e2]
    exact ⟨rfl, fun _ => rfl⟩
  | false =>
    rw [ok] at t1 hq
    rw [if_neg (by decide)] at hq
    rw [hq]
    refine ⟨?_, fun h => by cases h⟩
    show false = (pieceF p q b).2.2
    cases hpk : (pieceF p q b).2.2 with
    | false => rfl
    | true =>
      exfalso
      obtain ⟨s, t, hst, _⟩ := piece_ok hb hpk
      have hi := (bnds_iff hb hst.s_in.1.1).2 hst.s_in
      unfold bnds at hi
      have hi1 := ((bndF_iff (bndF_pos start_pos _ _ _ _) hb.2 hst.s_in.1.1).1 hi).1
      have hpos := bndF_pos start_pos p.x (q.x - p.x) b.lo.x b.hi.x
      rw [h1] at hi1 hpos
      obtain ⟨a, c, d⟩ := hi1
      have hle := Ra.le_trans hpos.lo hst.s_in.1.1 hpos.hi c d
      dsimp only at a hle
      by_cases h0 : q.x - p.x = 0
      · rw [if_pos h0] at t1
        rw [decide_eq_false (show ¬ (q.x - p.x ≠ 0) from fun h => h h0), ← t1] at a
        cases a
      · rw [if_neg h0] at t1
        rw [Ra.less_not.2 hle] at t1
        cases t1
theorem rPiece_eq {p q : Pt} {b : Bx} (hb : BoxUp b) (h : inB p b = true ∨ inB q b = true) : rPiece p q b = pieceF p q b := by
  obtain ⟨h1, h2⟩ := rPiece_same (p := p) (q := q) hb
  refine h2 (h1.trans ?_)
  rcases h with h | h
  · exact piece_of hb (zero_in h)
  · exact piece_of hb (one_in h)
end Go.Proofs.Ytadiajlegajclaa
