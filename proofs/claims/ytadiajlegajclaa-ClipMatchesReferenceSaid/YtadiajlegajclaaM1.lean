/- Clipping, the plain functions: points, boxes, ratios, pieces. No program is named. -/
namespace Go.Proofs.Ytadiajlegajclaa

structure Pt where
  x : Int
  y : Int
theorem Pt.ext_ {p q : Pt} (hx : p.x = q.x) (hy : p.y = q.y) : p = q := by cases p; cases q; simp_all
instance : DecidableEq Pt := fun p q => if hx : p.x = q.x then if hy : p.y = q.y then .isTrue (Pt.ext_ hx hy) else .isFalse (fun e => hy (by rw [e])) else .isFalse (fun e => hx (by rw [e]))
/-- A box: its least and its greatest point. -/
structure Bx where
  lo : Pt
  hi : Pt

def nearB (p : Pt) : Bool := decide (-2097152 ≤ p.x ∧ p.x ≤ 2097152 ∧ -2097152 ≤ p.y ∧ p.y ≤ 2097152)
theorem nearB_iff {p : Pt} : nearB p = true ↔ -2097152 ≤ p.x ∧ p.x ≤ 2097152 ∧ -2097152 ≤ p.y ∧ p.y ≤ 2097152 := by unfold nearB; rw [decide_eq_true_eq]
def inB (p : Pt) (b : Bx) : Bool := decide (b.lo.x ≤ p.x ∧ p.x ≤ b.hi.x ∧ b.lo.y ≤ p.y ∧ p.y ≤ b.hi.y)
theorem inB_iff {p : Pt} {b : Bx} : inB p b = true ↔ b.lo.x ≤ p.x ∧ p.x ≤ b.hi.x ∧ b.lo.y ≤ p.y ∧ p.y ≤ b.hi.y := by unfold inB; rw [decide_eq_true_eq]
def boxB (b : Bx) : Bool := nearB b.lo && nearB b.hi && decide (b.lo.x ≤ b.hi.x ∧ b.lo.y ≤ b.hi.y)
def propB (l : List Pt) (b : Bx) : Bool := boxB b && l.all nearB

/-- a / b for b greater than 0, rounded: the greater one of two. -/
def rnd (a b : Int) : Int := (2 * a + b) / (2 * b)

/-- A rational number: numerator and denominator. -/
abbrev Ra := Int × Int
def Ra.less (r s : Ra) : Bool := decide (r.1 * s.2 < s.1 * r.2)
def raOf (a b : Int) : Ra := if b < 0 then (-a, -b) else (a, b)

/-- What piece's bound does to the three captured variables. -/
def bndF (s : Ra × Ra × Bool) (from_ by_ least most : Int) : Ra × Ra × Bool :=
  if by_ = 0 then (s.1, s.2.1, s.2.2 && decide (least ≤ from_) && decide (from_ ≤ most))
  else
    let u := raOf (least - from_) by_
    let v := raOf (most - from_) by_
    let u' := if v.less u then v else u
    let v' := if v.less u then u else v
    (if Ra.less s.1 u' then u' else s.1, if Ra.less v' s.2.1 then v' else s.2.1, s.2.2)
def ptAt (p : Pt) (dx dy : Int) (r : Ra) : Pt := ⟨p.x + rnd (r.1 * dx) r.2, p.y + rnd (r.1 * dy) r.2⟩
def bnds (p q : Pt) (b : Bx) : Ra × Ra × Bool := bndF (bndF ((0, 1), (1, 1), true) p.x (q.x - p.x) b.lo.x b.hi.x) p.y (q.y - p.y) b.lo.y b.hi.y
def pieceF (p q : Pt) (b : Bx) : Pt × Pt × Bool :=
  let s := bnds p q b
  (ptAt p (q.x - p.x) (q.y - p.y) s.1, ptAt p (q.x - p.x) (q.y - p.y) s.2.1, s.2.2 && !(Ra.less s.2.1 s.1))

/-- Small ratios: what the walk needs of its bounds. -/
structure RaOk (r : Ra) : Prop where
  pos : 0 < r.2
  top : r.2 ≤ 4194304
  lo : -4194304 ≤ r.1
  hi : r.1 ≤ 4194304

theorem raOf_ok {a b : Int} (hb : b ≠ 0) (h1 : -4194304 ≤ a) (h2 : a ≤ 4194304) (h3 : -4194304 ≤ b) (h4 : b ≤ 4194304) : RaOk (raOf a b) := by
  unfold raOf
  split
  · exact ⟨by show 0 < -b; omega, by show -b ≤ _; omega, by show _ ≤ -a; omega, by show -a ≤ _; omega⟩
  · exact ⟨by show 0 < b; omega, h4, h1, h2⟩
theorem bndF_ok {s : Ra × Ra × Bool} {f d l m : Int} (h1 : RaOk s.1) (h2 : RaOk s.2.1) (hf : -2097152 ≤ f ∧ f ≤ 2097152) (hd : -4194304 ≤ d ∧ d ≤ 4194304) (hl : -2097152 ≤ l ∧ l ≤ 2097152) (hm : -2097152 ≤ m ∧ m ≤ 2097152) :
    RaOk (bndF s f d l m).1 ∧ RaOk (bndF s f d l m).2.1 := by
  unfold bndF
  split
  · exact ⟨h1, h2⟩
  · rename_i h0
    have ou := raOf_ok (a := l - f) h0 (by omega) (by omega) hd.1 hd.2
    have ov := raOf_ok (a := m - f) h0 (by omega) (by omega) hd.1 hd.2
    dsimp only
    constructor <;> split <;> split <;> assumption

end Go.Proofs.Ytadiajlegajclaa
