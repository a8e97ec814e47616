/- All moved by the same amount. -/
import Derived.Test.YtadiajlegajclaaP5
import Derived.Test.YtadiajlegajclaaL5
set_option linter.unusedSimpArgs false
set_option linter.unusedVariables false
namespace Go.Proofs.Ytadiajlegajclaa

def shiftB (d : Pt) (b : Bx) : Bx := ⟨shift d b.lo, shift d b.hi⟩
theorem shift_inj {d p q : Pt} (h : shift d p = shift d q) : p = q := by
  unfold shift at h
  injection h with hx hy
  exact Pt.ext_ (by omega) (by omega)
theorem bndF_shift (s : Ra × Ra × Bool) (f d l m e : Int) : bndF s (f + e) d (l + e) (m + e) = bndF s f d l m := by
  unfold bndF
  rw [show l + e - (f + e) = l - f by omega, show m + e - (f + e) = m - f by omega,
    show decide (l + e ≤ f + e) = decide (l ≤ f) by congr 1; apply propext; omega, show decide (f + e ≤ m + e) = decide (f ≤ m) by congr 1; apply propext; omega]
theorem bnds_shift (d p q : Pt) (b : Bx) : bnds (shift d p) (shift d q) (shiftB d b) = bnds p q b := by
  unfold bnds shift shiftB shift
  dsimp only
  rw [show q.x + d.x - (p.x + d.x) = q.x - p.x by omega, show q.y + d.y - (p.y + d.y) = q.y - p.y by omega, bndF_shift, bndF_shift]
theorem ptAt_shift (d p : Pt) (dx dy : Int) (r : Ra) : ptAt (shift d p) dx dy r = shift d (ptAt p dx dy r) := by
  unfold ptAt shift
  exact Pt.ext_ (by show p.x + d.x + _ = p.x + _ + d.x; omega) (by show p.y + d.y + _ = p.y + _ + d.y; omega)
theorem piece_shift (d p q : Pt) (b : Bx) : pieceF (shift d p) (shift d q) (shiftB d b) = (shift d (pieceF p q b).1, shift d (pieceF p q b).2.1, (pieceF p q b).2.2) := by
  unfold pieceF
  rw [bnds_shift]
  dsimp only
  rw [show (shift d q).x - (shift d p).x = q.x - p.x by unfold shift; dsimp only; omega, show (shift d q).y - (shift d p).y = q.y - p.y by unfold shift; dsimp only; omega, ptAt_shift, ptAt_shift]
theorem inB_shift (d p : Pt) (b : Bx) : inB (shift d p) (shiftB d b) = inB p b := by
  unfold inB shift shiftB shift
  congr 1
  apply propext
  dsimp only
  omega
theorem dput_shift (d : Pt) (l : List Pt) (x : Pt) : dput (l.map (shift d)) (shift d x) = (dput l x).map (shift d) := by
  unfold dput
  rw [List.getLast?_map]
  by_cases h : l.getLast? = some x
  · rw [h]; simp
  · rw [if_neg h, if_neg (fun e => h ?_)]
    · simp
    · cases hl : l.getLast? with
      | none => rw [hl] at e; simp at e
      | some y =>
        rw [hl] at e
        simp only [Option.map_some, Option.some.injEq] at e
        rw [shift_inj e]
theorem dd_shift (d : Pt) (l : List Pt) : dd (l.map (shift d)) = (dd l).map (shift d) := by
  refine snoc_ind (p := fun l => dd (l.map (shift d)) = (dd l).map (shift d)) rfl (fun l x ih => ?_) l
  rw [List.map_append]
  show dd (l.map (shift d) ++ [shift d x]) = _
  rw [dd_snoc, dd_snoc, ih, dput_shift]

/-- A state of Line, moved. -/
def shiftS (d : Pt) (s : List Pt × List (List Pt)) : List Pt × List (List Pt) := (s.1.map (shift d), s.2.map (List.map (shift d)))
theorem flush_shift (d : Pt) (s : List Pt × List (List Pt)) : flush (shiftS d s) = shiftS d (flush s) := by
  unfold flush shiftS
  dsimp only
  rw [dd_shift, List.length_map]
  congr 1
  split <;> simp
theorem lineStep_shift (d : Pt) (b : Bx) (s : List Pt × List (List Pt)) (pq : Pt × Pt) : lineStep (shiftB d b) (shiftS d s) (shift d pq.1, shift d pq.2) = shiftS d (lineStep b s pq) := by
  unfold lineStep
  dsimp only
  rw [inB_shift, piece_shift]
  have h : (if inB pq.1 b = true then shiftS d s else flush (shiftS d s)) = shiftS d (if inB pq.1 b = true then s else flush s) := by
    split
    · rfl
    · exact flush_shift d s
  rw [h]
  split
  · unfold shiftS
    simp
  · rfl
theorem pairs_shift (d : Pt) (l : List Pt) : pairs (l.map (shift d)) = (pairs l).map fun pq => (shift d pq.1, shift d pq.2) := by
  unfold pairs
  rw [← List.map_tail, List.zip_map]
  rfl
theorem lineS_shift (d : Pt) (b : Bx) (ps : List (Pt × Pt)) : lineS (shiftB d b) (ps.map fun pq => (shift d pq.1, shift d pq.2)) = shiftS d (lineS b ps) := by
  refine snoc_ind (p := fun ps => lineS (shiftB d b) (ps.map fun pq => (shift d pq.1, shift d pq.2)) = shiftS d (lineS b ps)) rfl (fun l x ih => ?_) ps
  unfold lineS at ih ⊢
  rw [List.map_append, List.foldl_append, List.foldl_append, ih]
  exact lineStep_shift d b _ x

theorem moved_near {l : List Pt} {d : Pt} (h : movedB l d = true) : l.all nearB = true ∧ (l.map (shift d)).all nearB = true := by
  unfold movedB at h
  rw [Bool.and_eq_true] at h
  refine ⟨?_, h.2⟩
  rw [List.all_eq_true] at h ⊢
  intro p hp
  have := h.1 p hp
  rw [Bool.and_eq_true] at this
  exact this.1
theorem propB_shift {l : List Pt} {d : Pt} {b : Bx} (h1 : movedB l d = true) (h2 : movedB [b.lo, b.hi] d = true) : propB (l.map (shift d)) (shiftB d b) = propB l b := by
  obtain ⟨a1, a2⟩ := moved_near h1
  obtain ⟨c1, c2⟩ := moved_near h2
  simp only [List.all_cons, List.all_nil, Bool.and_true, Bool.and_eq_true, List.map_cons, List.map_nil] at c1 c2
  unfold propB boxB
  rw [a1, a2, c1.1, c1.2]
  show (nearB (shift d b.lo) && nearB (shift d b.hi) && _ && true) = _
  rw [c2.1, c2.2]
  congr 2
  unfold shiftB shift
  congr 1
  apply propext
  dsimp only
  omega
theorem lineF_shift {l : List Pt} {d : Pt} {b : Bx} (h1 : movedB l d = true) (h2 : movedB [b.lo, b.hi] d = true) : lineF (l.map (shift d)) (shiftB d b) = (lineF l b).map (List.map (shift d)) := by
  unfold lineF
  rw [propB_shift h1 h2, pairs_shift, lineS_shift, flush_shift]
  split <;> rfl

theorem coord_shift (i : Nat) (d p : Pt) : coord i (shift d p) = coord i p + coord i d := by
  unfold coord shift
  dsimp only
  split
  · omega
  · split
    · rfl
    · split <;> omega
theorem limitC_shift (i : Nat) (d : Pt) (b : Bx) : limitC i (shiftB d b) = limitC i b + coord i d := by
  unfold limitC coord shiftB shift
  dsimp only
  split
  · omega
  · split
    · rfl
    · split <;> omega
theorem keepsF_shift (i : Nat) (d p : Pt) (b : Bx) : keepsF i (shiftB d b) (shift d p) = keepsF i b p := by
  unfold keepsF
  rw [coord_shift, limitC_shift]
  congr 1
  apply propext
  omega
theorem acrossF_shift (i : Nat) (d p q : Pt) (b : Bx) : acrossF i (shiftB d b) (shift d p) (shift d q) = shift d (acrossF i b p q) := by
  unfold acrossF acrossR
  rw [coord_shift, coord_shift, limitC_shift, show limitC i b + coord i d - (coord i p + coord i d) = limitC i b - coord i p by omega, show coord i q + coord i d - (coord i p + coord i d) = coord i q - coord i p by omega,
    show (shift d q).x - (shift d p).x = q.x - p.x by unfold shift; dsimp only; omega, show (shift d q).y - (shift d p).y = q.y - p.y by unfold shift; dsimp only; omega, ptAt_shift]
theorem cutPair_shift (i : Nat) (d p q : Pt) (b : Bx) : cutPair i (shiftB d b) (shift d p) (shift d q) = (cutPair i b p q).map (shift d) := by
  unfold cutPair
  rw [keepsF_shift, keepsF_shift, acrossF_shift, List.map_append]
  congr 1
  · split <;> rfl
  · split <;> rfl
theorem getD_shift (d : Pt) (r : List Pt) {k : Nat} (hk : k < r.length) : (r.map (shift d)).getD k ⟨0, 0⟩ = shift d (r.getD k ⟨0, 0⟩) := by
  rw [List.getD_eq_getElem?_getD, List.getD_eq_getElem?_getD, List.getElem?_map, List.getElem?_eq_getElem hk]
  rfl
theorem cutF_shift (i : Nat) (d : Pt) (b : Bx) (r : List Pt) : cutF i (shiftB d b) (r.map (shift d)) = (cutF i b r).map (shift d) := by
  unfold cutF cutTo
  rw [List.length_map, List.map_flatMap, List.flatMap_def, List.flatMap_def]
  congr 1
  refine List.map_congr_left fun j hj => ?_
  have hlt := List.mem_range.1 hj
  have hb : before (r.map (shift d)) j = shift d (before r j) := by
    unfold before
    rw [List.length_map]
    exact getD_shift d r (Nat.mod_lt _ (by omega))
  rw [hb, getD_shift d r hlt, cutPair_shift]
theorem cuts_shift (d : Pt) (b : Bx) (r : List Pt) : ∀ k, cuts (shiftB d b) (r.map (shift d)) k = (cuts b r k).map (shift d)
  | 0 => rfl
  | k + 1 => by
    show cutF k _ (cuts _ _ k) = (cutF k b (cuts b r k)).map _
    rw [cuts_shift d b r k, cutF_shift]
theorem trim_shift (d : Pt) : ∀ (k : Nat) (r : List Pt), trim (r.map (shift d)) k = (trim r k).map (shift d)
  | 0, r => rfl
  | k + 1, r => by
    unfold trim
    have e : (1 < (r.map (shift d)).length ∧ (r.map (shift d)).head? = (r.map (shift d)).getLast?) ↔ (1 < r.length ∧ r.head? = r.getLast?) := by
      rw [List.length_map, List.head?_map, List.getLast?_map]
      constructor
      · rintro ⟨h1, h2⟩
        refine ⟨h1, ?_⟩
        cases hh : r.head? with
        | none =>
          rw [hh] at h2
          cases hl : r.getLast? with
          | none => rfl
          | some y => rw [hl] at h2; simp at h2
        | some x =>
          rw [hh] at h2
          cases hl : r.getLast? with
          | none => rw [hl] at h2; simp at h2
          | some y =>
            rw [hl] at h2
            simp only [Option.map_some, Option.some.injEq] at h2
            rw [shift_inj h2]
      · rintro ⟨h1, h2⟩
        exact ⟨h1, by rw [h2]⟩
    by_cases h : 1 < r.length ∧ r.head? = r.getLast?
    · rw [if_pos h, if_pos (e.2 h), ← List.map_dropLast, trim_shift d k]
    · rw [if_neg h, if_neg (fun h' => h (e.1 h'))]
theorem aroundF_shift (d : Pt) (r : List Pt) : aroundF (r.map (shift d)) = (aroundF r).map (shift d) := by
  unfold aroundF
  rw [dd_shift, List.length_map, trim_shift, List.length_map]
  split <;> rfl
theorem ringF_shift {l : List Pt} {d : Pt} {b : Bx} (h1 : movedB l d = true) (h2 : movedB [b.lo, b.hi] d = true) : ringF (l.map (shift d)) (shiftB d b) = (ringF l b).map (shift d) := by
  unfold ringF
  rw [propB_shift h1 h2, cuts_shift, aroundF_shift]
  split <;> rfl

/-- What lies in a box whose corners may be moved may be moved. -/
theorem moved_in {x : List Pt} {d : Pt} {b : Bx} (h2 : movedB [b.lo, b.hi] d = true) (hin : ∀ p ∈ x, inB p b = true) (hd : x ≠ [] → True) : movedB x d = true := by
  have hdn : nearB d = true := by
    unfold movedB at h2
    simp only [List.all_cons, Bool.and_eq_true] at h2
    exact h2.1.1.2
  obtain ⟨c1, c2⟩ := moved_near h2
  simp only [List.all_cons, List.all_nil, Bool.and_true, Bool.and_eq_true, List.map_cons, List.map_nil] at c1 c2
  have n1 := nearB_iff.1 c1.1
  have n2 := nearB_iff.1 c1.2
  have n3 := nearB_iff.1 c2.1
  have n4 := nearB_iff.1 c2.2
  unfold shift at n3 n4
  dsimp only at n3 n4
  unfold movedB
  rw [Bool.and_eq_true, List.all_eq_true, List.all_eq_true]
  refine ⟨fun p hp => ?_, fun p hp => ?_⟩
  · have := inB_iff.1 (hin p hp)
    rw [hdn, Bool.and_true, nearB_iff]
    omega
  · obtain ⟨q, hq, rfl⟩ := List.mem_map.1 hp
    have := inB_iff.1 (hin q hq)
    rw [nearB_iff]
    unfold shift
    dsimp only
    omega
end Go.Proofs.Ytadiajlegajclaa
