/- The parts of a line backwards. No program is named. -/
import Derived.Test.YtadiajlegajclaaP4
set_option linter.unusedSimpArgs false
set_option linter.unusedVariables false
namespace Go.Proofs.Ytadiajlegajclaa

theorem dd_head (l : List Pt) : (dd l).head? = l.head? := by
  refine snoc_ind (p := fun l => (dd l).head? = l.head?) rfl (fun l x ih => ?_) l
  rw [dd_snoc, dput]
  split
  · rename_i h
    rw [ih]
    cases l with
    | nil => simp [dd] at h
    | cons a l => rfl
  · cases l with
    | nil => rfl
    | cons a l =>
      cases hd : dd (a :: l) with
      | nil => rw [hd] at ih; simp at ih
      | cons c r => rw [hd] at ih; simpa using ih
theorem dd_cons (x : Pt) (l : List Pt) : dd (x :: l) = if l.head? = some x then dd l else x :: dd l := by
  refine snoc_ind (p := fun l => dd (x :: l) = if l.head? = some x then dd l else x :: dd l) rfl (fun l y ih => ?_) l
  have e : x :: (l ++ [y]) = (x :: l) ++ [y] := rfl
  rw [e, dd_snoc, ih]
  cases l with
  | nil =>
    show dput [x] y = if some y = some x then dd [y] else x :: dd [y]
    by_cases h : x = y
    · subst h; simp [dd, dput]
    · simp [dd, dput, h, Ne.symm h]
  | cons a l =>
    have eh : ((a :: l) ++ [y]).head? = (a :: l).head? := rfl
    rw [eh]
    split
    · rw [dd_snoc]
    · rw [dd_snoc]
      have hne : (dd (a :: l)) ≠ [] := fun e => by have := dd_head (a :: l); rw [e] at this; simp at this
      unfold dput
      have el : (x :: dd (a :: l)).getLast? = (dd (a :: l)).getLast? := by
        cases hd : dd (a :: l) with
        | nil => exact absurd hd hne
        | cons c r => simp [List.getLast?_cons_cons]
      rw [el]
      split <;> rfl
theorem dd_reverse : ∀ (l : List Pt), dd l.reverse = (dd l).reverse
  | [] => rfl
  | x :: l => by
    rw [List.reverse_cons, dd_snoc, dd_reverse l, dd_cons]
    unfold dput
    rw [List.getLast?_reverse, dd_head]
    split
    · rfl
    · rw [List.reverse_cons]

/-- Points and breaks. -/
abbrev Tok := Option Pt
def tokStep (s : List Pt × List (List Pt)) : Tok → List Pt × List (List Pt)
  | none => flush s
  | some x => (s.1 ++ [x], s.2)
def seg : List Tok → List (List Pt)
  | [] => [[]]
  | none :: t => [] :: seg t
  | some x :: t => match seg t with
    | [] => [[x]]
    | g :: gs => (x :: g) :: gs
theorem seg_ne (t : List Tok) : seg t ≠ [] := by
  cases t with
  | nil => simp [seg]
  | cons a t =>
    cases a with
    | none => simp [seg]
    | some x =>
      unfold seg
      split <;> simp
def longs (gs : List (List Pt)) : List (List Pt) := (gs.map dd).filter fun g => decide (1 < g.length)
theorem flush_longs (s : List Pt × List (List Pt)) : (flush s).2 = s.2 ++ longs [s.1] := by
  unfold flush longs
  by_cases h : 1 < (dd s.1).length
  · simp [h]
  · simp [h]
theorem longs_cons (g : List Pt) (gs : List (List Pt)) : longs (g :: gs) = longs [g] ++ longs gs := by
  unfold longs
  rw [List.map_cons, List.filter_cons]
  by_cases h : 1 < (dd g).length
  · simp [h]
  · simp [h]
theorem tok_run : ∀ (t : List Tok) (s : List Pt × List (List Pt)) (g : List Pt) (gs : List (List Pt)), seg t = g :: gs → (flush (t.foldl tokStep s)).2 = s.2 ++ longs ((s.1 ++ g) :: gs)
  | [], s, g, gs, h => by
    unfold seg at h
    cases h
    rw [List.append_nil]
    exact flush_longs s
  | none :: t, s, g, gs, h => by
    unfold seg at h
    cases h
    obtain ⟨g', gs', e⟩ := List.exists_cons_of_ne_nil (seg_ne t)
    rw [List.foldl_cons, tok_run t _ g' gs' e]
    show (flush s).2 ++ longs ((([] : List Pt) ++ g') :: gs') = _
    rw [flush_longs, List.append_nil, e, List.append_assoc]
    exact congrArg (s.2 ++ ·) (longs_cons s.1 (g' :: gs')).symm
  | some x :: t, s, g, gs, h => by
    obtain ⟨g', gs', e⟩ := List.exists_cons_of_ne_nil (seg_ne t)
    unfold seg at h
    rw [e] at h
    cases h
    rw [List.foldl_cons, tok_run t _ g' _ e]
    show s.2 ++ longs ((s.1 ++ [x] ++ g') :: _) = _
    rw [List.append_assoc]
    rfl
theorem tok_parts (t : List Tok) : (flush (t.foldl tokStep ([], []))).2 = longs (seg t) := by
  obtain ⟨g, gs, e⟩ := List.exists_cons_of_ne_nil (seg_ne t)
  rw [tok_run t _ g gs e, e]
  rfl
theorem seg_snoc_none : ∀ (t : List Tok), seg (t ++ [none]) = seg t ++ [[]]
  | [] => rfl
  | none :: t => by
    show [] :: seg (t ++ [none]) = ([] :: seg t) ++ [[]]
    rw [seg_snoc_none t]; rfl
  | some x :: t => by
    obtain ⟨g, gs, e⟩ := List.exists_cons_of_ne_nil (seg_ne t)
    have h := seg_snoc_none t
    rw [e] at h
    show (match seg (t ++ [none]) with | [] => [[x]] | g :: gs => (x :: g) :: gs) = (match seg t with | [] => [[x]] | g :: gs => (x :: g) :: gs) ++ [[]]
    rw [h, e]; rfl
theorem seg_snoc_some (y : Pt) : ∀ (t : List Tok) (hs : List (List Pt)) (h : List Pt), seg t = hs ++ [h] → seg (t ++ [some y]) = hs ++ [h ++ [y]]
  | [], hs, h, e => by
    have e' : [[]] = hs ++ [h] := e
    cases hs with
    | nil => simp at e'; subst e'; rfl
    | cons a hs => simp at e'
  | none :: t, hs, h, e => by
    have e' : [] :: seg t = hs ++ [h] := e
    cases hs with
    | nil => simp at e'; exact absurd e'.2 (seg_ne t)
    | cons a hs =>
      simp only [List.cons_append, List.cons.injEq] at e'
      show [] :: seg (t ++ [some y]) = _
      rw [seg_snoc_some y t hs h e'.2, e'.1]; rfl
  | some x :: t, hs, h, e => by
    obtain ⟨g, gs, eg⟩ := List.exists_cons_of_ne_nil (seg_ne t)
    have e' : (match seg t with | [] => [[x]] | g :: gs => (x :: g) :: gs) = hs ++ [h] := e
    rw [eg] at e'
    show (match seg (t ++ [some y]) with | [] => [[x]] | g :: gs => (x :: g) :: gs) = _
    cases hs with
    | nil =>
      simp only [List.nil_append, List.cons.injEq] at e'
      obtain ⟨rfl, rfl⟩ := e'
      rw [seg_snoc_some y t [] g (by rw [eg]; rfl)]; rfl
    | cons a hs =>
      simp only [List.cons_append, List.cons.injEq] at e'
      obtain ⟨rfl, rfl⟩ := e'
      rw [seg_snoc_some y t (g :: hs) h (by rw [eg]; rfl)]; rfl
theorem seg_reverse : ∀ (t : List Tok), seg t.reverse = ((seg t).map List.reverse).reverse
  | [] => rfl
  | none :: t => by
    rw [List.reverse_cons, seg_snoc_none, seg_reverse t]
    show _ = (([] :: seg t).map List.reverse).reverse
    simp
  | some x :: t => by
    obtain ⟨g, gs, e⟩ := List.exists_cons_of_ne_nil (seg_ne t)
    have ih := seg_reverse t
    rw [e] at ih
    rw [List.reverse_cons, seg_snoc_some x t.reverse ((gs.map List.reverse).reverse) g.reverse (by rw [ih]; simp)]
    show _ = ((match seg t with | [] => [[x]] | g :: gs => (x :: g) :: gs).map List.reverse).reverse
    rw [e]
    simp
theorem longs_map : ∀ (gs : List (List Pt)), longs (gs.map List.reverse) = (longs gs).map List.reverse
  | [] => rfl
  | g :: gs => by
    have h1 : longs [g.reverse] = (longs [g]).map List.reverse := by
      unfold longs
      rw [List.map_cons, List.map_cons, dd_reverse]
      by_cases h : 1 < (dd g).length
      · simp [h]
      · simp [h]
    rw [List.map_cons, longs_cons, longs_cons g, h1, longs_map gs, List.map_append]
theorem longs_reverse (gs : List (List Pt)) : longs ((gs.map List.reverse).reverse) = ((longs gs).map List.reverse).reverse := by
  rw [← longs_map]
  unfold longs
  rw [List.map_reverse, List.filter_reverse]

/-- A line's tokens. -/
def brk (b : Bx) (p : Pt) : List Tok := if inB p b then [] else [none]
def two (b : Bx) (pq : Pt × Pt) : List Tok := if (pieceF pq.1 pq.2 b).2.2 then [some (pieceF pq.1 pq.2 b).1, some (pieceF pq.1 pq.2 b).2.1] else []
def toks (b : Bx) : List Pt → List Tok
  | [] => []
  | [p] => brk b p
  | p :: q :: l => brk b p ++ two b (p, q) ++ toks b (q :: l)
theorem lineStep_toks (b : Bx) (s : List Pt × List (List Pt)) (pq : Pt × Pt) : lineStep b s pq = (brk b pq.1 ++ two b pq).foldl tokStep s := by
  unfold lineStep brk two
  rw [List.foldl_append]
  dsimp only
  by_cases h1 : inB pq.1 b = true
  · rw [if_pos h1, if_pos h1]
    by_cases h2 : (pieceF pq.1 pq.2 b).2.2 = true
    · rw [if_pos h2, if_pos h2]; simp [tokStep]
    · rw [if_neg h2, if_neg h2]; rfl
  · rw [if_neg h1, if_neg h1]
    by_cases h2 : (pieceF pq.1 pq.2 b).2.2 = true
    · rw [if_pos h2, if_pos h2]; simp [tokStep]
    · rw [if_neg h2, if_neg h2]; rfl
theorem flush_flush (s : List Pt × List (List Pt)) : (flush (flush s)).2 = (flush s).2 := by
  rw [flush_longs (flush s)]
  have : longs [(flush s).1] = [] := by
    show longs [[]] = []
    rfl
  rw [this, List.append_nil]
theorem lineS_toks (b : Bx) : ∀ (l : List Pt) (s : List Pt × List (List Pt)), (flush ((pairs l).foldl (lineStep b) s)).2 = (flush ((toks b l).foldl tokStep s)).2
  | [], s => rfl
  | [p], s => by
    show (flush s).2 = (flush ((brk b p).foldl tokStep s)).2
    unfold brk
    split
    · rfl
    · show _ = (flush (flush s)).2
      rw [flush_flush]
  | p :: q :: l, s => by
    show (flush ((pairs (q :: l)).foldl (lineStep b) (lineStep b s (p, q)))).2 = (flush ((brk b p ++ two b (p, q) ++ toks b (q :: l)).foldl tokStep s)).2
    rw [List.foldl_append, ← lineStep_toks b s (p, q)]
    exact lineS_toks b (q :: l) _
theorem lineF_toks (l : List Pt) (b : Bx) : lineF l b = if propB l b then longs (seg (toks b l)) else [] := by
  unfold lineF lineS
  split
  · rw [lineS_toks, tok_parts]
  · rfl

/-- The other way round: ratios. -/
def Ra.flip (r : Ra) : Ra := (r.2 - r.1, r.2)
theorem Ra.flip_flip (r : Ra) : r.flip.flip = r := by
  unfold Ra.flip
  obtain ⟨a, c⟩ := r
  show (c - (c - a), c) = (a, c)
  rw [show c - (c - a) = a by omega]
theorem Ra.flip_le {r s : Ra} (h : r.le s) : s.flip.le r.flip := by
  unfold Ra.le Ra.flip at *
  dsimp only
  rw [Int.sub_mul, Int.sub_mul, Int.mul_comm s.2 r.2]
  omega
theorem dimOk_flip {f g l m : Int} {r : Ra} (h : dimOk f (g - f) l m r) : dimOk g (f - g) l m r.flip := by
  unfold dimOk Ra.flip at *
  dsimp only
  simp only [Int.sub_mul, Int.mul_sub] at *
  have e1 : r.2 * f = f * r.2 := Int.mul_comm _ _
  have e2 : r.2 * g = g * r.2 := Int.mul_comm _ _
  omega
theorem inSeg_flip {p q : Pt} {b : Bx} {r : Ra} (h : InSeg p q b r) : InSeg q p b r.flip := by
  obtain ⟨⟨h1, h2, h3⟩, hx, hy⟩ := h
  exact ⟨⟨h1, by show 0 ≤ r.2 - r.1; omega, by show r.2 - r.1 ≤ r.2; omega⟩, dimOk_flip hx, dimOk_flip hy⟩
theorem IsPiece.flip {p q : Pt} {b : Bx} {s t : Ra} (h : IsPiece p q b s t) : IsPiece q p b t.flip s.flip := by
  refine ⟨inSeg_flip h.t_in, inSeg_flip h.s_in, fun r hr => ?_, fun r hr => ?_⟩
  · have := Ra.flip_le (h.most _ (inSeg_flip hr))
    rwa [Ra.flip_flip] at this
  · have := Ra.flip_le (h.least _ (inSeg_flip hr))
    rwa [Ra.flip_flip] at this
theorem rnd_add {a b k : Int} (hb : 0 < b) : rnd (a + k * b) b = rnd a b + k := by
  unfold rnd
  rw [show 2 * (a + k * b) + b = 2 * a + b + k * (2 * b) by rw [Int.mul_add, Int.mul_left_comm]; omega]
  exact Int.add_mul_ediv_right _ _ (by omega)
theorem rnd_flip {r : Ra} (h : 0 < r.2) (f g : Int) : g + rnd (r.flip.1 * (f - g)) r.flip.2 = f + rnd (r.1 * (g - f)) r.2 := by
  unfold Ra.flip
  dsimp only
  have e : (r.2 - r.1) * (f - g) = r.1 * (g - f) + (f - g) * r.2 := by
    simp only [Int.sub_mul, Int.mul_sub]
    have e1 : r.2 * f = f * r.2 := Int.mul_comm _ _
    have e2 : r.2 * g = g * r.2 := Int.mul_comm _ _
    omega
  rw [e, rnd_add h]
  omega
theorem ptAt_flip {p q : Pt} {r : Ra} (h : 0 < r.2) : ptAt q (p.x - q.x) (p.y - q.y) r.flip = ptAt p (q.x - p.x) (q.y - p.y) r := by
  unfold ptAt
  rw [rnd_flip h, rnd_flip h]
theorem two_flip {b : Bx} (hb : BoxUp b) (p q : Pt) : two b (q, p) = (two b (p, q)).reverse := by
  unfold two
  dsimp only
  by_cases h : (pieceF p q b).2.2 = true
  · obtain ⟨s, t, hst, e⟩ := piece_ok hb h
    have e2 := piece_eq hb hst.flip
    rw [e, e2, ptAt_flip hst.s_in.1.1, ptAt_flip hst.t_in.1.1]
    rfl
  · have h2 : ¬ (pieceF q p b).2.2 = true := fun h2 => by
      obtain ⟨s, t, hst, e⟩ := piece_ok hb h2
      exact h (by rw [piece_eq hb hst.flip])
    rw [if_neg h, if_neg h2]
    rfl
theorem brk_reverse (b : Bx) (p : Pt) : (brk b p).reverse = brk b p := by
  unfold brk
  split <;> rfl
theorem toks_snoc (b : Bx) (q : Pt) : ∀ (l : List Pt) (p : Pt), toks b (l ++ [p] ++ [q]) = toks b (l ++ [p]) ++ two b (p, q) ++ brk b q
  | [], p => rfl
  | [a], p => by
    show brk b a ++ two b (a, p) ++ (brk b p ++ two b (p, q) ++ brk b q) = brk b a ++ two b (a, p) ++ brk b p ++ two b (p, q) ++ brk b q
    simp only [List.append_assoc]
  | a :: c :: l, p => by
    have ih := toks_snoc b q (c :: l) p
    show brk b a ++ two b (a, c) ++ toks b (c :: l ++ [p] ++ [q]) = brk b a ++ two b (a, c) ++ toks b (c :: l ++ [p]) ++ two b (p, q) ++ brk b q
    rw [ih]
    simp only [List.append_assoc]
theorem toks_reverse {b : Bx} (hb : BoxUp b) : ∀ (l : List Pt), toks b l.reverse = (toks b l).reverse
  | [] => rfl
  | [p] => (brk_reverse b p).symm
  | p :: q :: l => by
    have ih := toks_reverse hb (q :: l)
    rw [List.reverse_cons, List.reverse_cons, toks_snoc]
    rw [List.reverse_cons] at ih
    rw [ih, two_flip hb p q]
    show _ = (brk b p ++ two b (p, q) ++ toks b (q :: l)).reverse
    rw [List.reverse_append, List.reverse_append, brk_reverse, List.append_assoc]
theorem propB_reverse (l : List Pt) (b : Bx) : propB l.reverse b = propB l b := by
  unfold propB
  rw [List.all_reverse]
theorem lineF_reverse (l : List Pt) (b : Bx) : lineF l.reverse b = ((lineF l b).map List.reverse).reverse := by
  rw [lineF_toks, lineF_toks, propB_reverse]
  split
  · rename_i h
    rw [toks_reverse (boxB_up (propB_box h).1), seg_reverse, longs_reverse]
  · rfl
end Go.Proofs.Ytadiajlegajclaa
