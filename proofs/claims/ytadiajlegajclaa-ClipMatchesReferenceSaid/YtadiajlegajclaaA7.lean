/- Line. -/
import Derived.Test.YtadiajlegajclaaA6
import Derived.Deep.RegionHeld3
import Derived.Test.YtadiajlegajclaaW2
import Derived.Deep.DeepCutAuto
set_option linter.unusedVariables false
set_option linter.unusedSimpArgs false
namespace Go.Proofs.Ytadiajlegajclaa
open Go.RowKit

/-- One round of Line's loop, at a pair of neighbours. -/
def lineStep (b : Bx) (s : List Pt × List (List Pt)) (pq : Pt × Pt) : List Pt × List (List Pt) :=
  let s1 := if inB pq.1 b then s else flush s
  if (pieceF pq.1 pq.2 b).2.2 then (s1.1 ++ [(pieceF pq.1 pq.2 b).1, (pieceF pq.1 pq.2 b).2.1], s1.2) else s1
def pairs (l : List Pt) : List (Pt × Pt) := l.zip l.tail
def lineS (b : Bx) (ps : List (Pt × Pt)) : List Pt × List (List Pt) := ps.foldl (lineStep b) ([], [])
def lineF (l : List Pt) (b : Bx) : List (List Pt) := if propB l b then (flush (lineS b (pairs l))).2 else []

theorem pairs_get (l : List Pt) (i : Nat) (p q : Pt) (hp : l[i]? = some p) (hq : l[i + 1]? = some q) : (pairs l)[i]? = some (p, q) := by
  unfold pairs
  rw [List.getElem?_zip_eq_some]
  exact ⟨hp, by rw [List.getElem?_tail]; exact hq⟩
theorem pairs_len (l : List Pt) : (pairs l).length = l.length - 1 := by
  unfold pairs
  rw [List.length_zip, List.length_tail]
  omega
theorem lineS_succ (b : Bx) (l : List Pt) (i : Nat) (p q : Pt) (hp : l[i]? = some p) (hq : l[i + 1]? = some q) : lineS b ((pairs l).take (i + 1)) = lineStep b (lineS b ((pairs l).take i)) (p, q) := by
  rw [List.take_add_one, pairs_get l i p q hp hq]
  simp [lineS, List.foldl_append]
theorem flush_len (s : List Pt × List (List Pt)) : (flush s).1.length = 0 ∧ (flush s).2.length ≤ s.2.length + 1 := by
  unfold flush
  refine ⟨rfl, ?_⟩
  show (if _ then _ else _ : List (List Pt)).length ≤ _
  split <;> simp
theorem lineStep_len (b : Bx) (s : List Pt × List (List Pt)) (pq : Pt × Pt) : (lineStep b s pq).1.length ≤ s.1.length + 2 ∧ (lineStep b s pq).2.length ≤ s.2.length + 1 := by
  obtain ⟨h1, h2⟩ := flush_len s
  unfold lineStep
  dsimp only
  constructor
  · split <;> split <;> (try simp only [List.length_append, List.length_cons, List.length_nil]) <;> omega
  · split <;> split <;> (try simp only [List.length_append, List.length_cons, List.length_nil]) <;> omega
theorem lineS_len (b : Bx) : ∀ (ps : List (Pt × Pt)), (lineS b ps).1.length ≤ 2 * ps.length ∧ (lineS b ps).2.length ≤ ps.length := by
  intro ps
  refine snoc_ind (p := fun ps => (lineS b ps).1.length ≤ 2 * ps.length ∧ (lineS b ps).2.length ≤ ps.length) ⟨Nat.le_refl _, Nat.le_refl _⟩ (fun l x ih => ?_) ps
  have e : lineS b (l ++ [x]) = lineStep b (lineS b l) x := by simp [lineS, List.foldl_append]
  rw [e]
  have := lineStep_len b (lineS b l) x
  simp
  omega

theorem prop_near {l : List Pt} {b : Bx} (h : propB l b = true) : (∀ p ∈ l, PtNear p) ∧ PtNear b.lo ∧ PtNear b.hi ∧ b.lo.x ≤ b.hi.x ∧ b.lo.y ≤ b.hi.y := by
  unfold propB boxB at h
  simp only [Bool.and_eq_true, List.all_eq_true, decide_eq_true_eq] at h
  obtain ⟨⟨⟨h1, h2⟩, h3, h4⟩, h5⟩ := h
  have near : ∀ p, nearB p = true → PtNear p := fun p hp => by obtain ⟨a, b, c, d⟩ := nearB_iff.1 hp; exact ⟨⟨a, b⟩, c, d⟩
  exact ⟨fun p hp => near p (h5 p hp), near _ h1, near _ h2, h3, h4⟩

/-- Two points of the line and the box, as cells. -/
def Eight (bb o1 o2 g : Nat) (p q : Pt) (b : Bx) (w' : World) : Prop :=
  w'.cell? ⟨bb, o1, none⟩ = some (.int .i64 p.x) ∧ w'.cell? ⟨bb, o1 + 1, none⟩ = some (.int .i64 p.y) ∧ w'.cell? ⟨bb, o2, none⟩ = some (.int .i64 q.x) ∧ w'.cell? ⟨bb, o2 + 1, none⟩ = some (.int .i64 q.y) ∧ w'.cell? ⟨g, 0, none⟩ = some (.int .i64 b.lo.x) ∧ w'.cell? ⟨g, 1, none⟩ = some (.int .i64 b.lo.y) ∧ w'.cell? ⟨g, 2, none⟩ = some (.int .i64 b.hi.x) ∧ w'.cell? ⟨g, 3, none⟩ = some (.int .i64 b.hi.y)
theorem Eight.mod {bb o1 o2 g : Nat} {p q : Pt} {b : Bx} {w w' : World} (h : Eight bb o1 o2 g p q b w) (hm : Mod Nothing w w') (h1 : bb < w.heap.size) (h2 : g < w.heap.size) : Eight bb o1 o2 g p q b w' := by
  obtain ⟨a0, a1, a2, a3, a4, a5, a6, a7⟩ := h
  exact ⟨(hm.cell (p := ⟨bb, o1, none⟩) h1 id).trans a0, (hm.cell (p := ⟨bb, o1 + 1, none⟩) h1 id).trans a1, (hm.cell (p := ⟨bb, o2, none⟩) h1 id).trans a2, (hm.cell (p := ⟨bb, o2 + 1, none⟩) h1 id).trans a3, (hm.cell (p := ⟨g, 0, none⟩) h2 id).trans a4, (hm.cell (p := ⟨g, 1, none⟩) h2 id).trans a5, (hm.cell (p := ⟨g, 2, none⟩) h2 id).trans a6, (hm.cell (p := ⟨g, 3, none⟩) h2 id).trans a7⟩

/-- While the statement p, q, ok := piece(..) runs: two new variables, γ.1 and γ.2. -/
structure PQAt (wr : World) (u v : Pt) (L : Array Bool) (γ : Nat × Nat) (w' : World) : Prop where
  base : Mod Nothing wr w'
  p : L.getD 15 false = true → wr.heap.size ≤ γ.1 ∧ Bk w' γ.1 24 (if L.getD 17 false then [.int .i64 u.x, .int .i64 u.y] else [.int .i64 0, .int .i64 0])
  q : L.getD 16 false = true → wr.heap.size ≤ γ.2 ∧ Bk w' γ.2 24 (if L.getD 18 false then [.int .i64 v.x, .int .i64 v.y] else [.int .i64 0, .int .i64 0])
  ne : L.getD 15 false = true → L.getD 16 false = true → γ.1 ≠ γ.2
  p1 : L.getD 17 false = true → L.getD 15 false = true
  q1 : L.getD 18 false = true → L.getD 16 false = true
theorem PQAt.skip {wr : World} {u v : Pt} {L : Array Bool} {γ : Nat × Nat} {w1 w2 : World} (h : PQAt wr u v L γ w1) (hm : Mod Nothing w1 w2) (i : Nat) (h1 : i ≠ 15) (h2 : i ≠ 16) (h3 : i ≠ 17) (h4 : i ≠ 18) : PQAt wr u v (L.setIfInBounds i true) γ w2 := by
  refine ⟨h.base.trans hm (fun _ _ h => h), ?_, ?_, ?_, ?_, ?_⟩
  · rw [getD_set_ne false h1, getD_set_ne false h3]
    exact fun e => ⟨(h.p e).1, hm.bk (h.p e).2 id⟩
  · rw [getD_set_ne false h2, getD_set_ne false h4]
    exact fun e => ⟨(h.q e).1, hm.bk (h.q e).2 id⟩
  · rw [getD_set_ne false h1, getD_set_ne false h2]; exact h.ne
  · rw [getD_set_ne false h1, getD_set_ne false h3]; exact h.p1
  · rw [getD_set_ne false h2, getD_set_ne false h4]; exact h.q1
theorem getD_un {L : Array Bool} {i : Nat} (h : L.getD i true = false) : L.getD i false = false := by
  have hlt : i < L.size := by
    rcases Nat.lt_or_ge i L.size with h' | h'
    · exact h'
    · rw [Array.getD_eq_getD_getElem?, Array.getElem?_eq_none h'] at h; cases h
  simp [hlt] at h ⊢
  exact h
theorem PQAt.new1 {wr : World} {u v : Pt} {L : Array Bool} {γ : Nat × Nat} {w1 : World} (h : PQAt wr u v L γ w1) (hu : L.getD 15 true = false) :
    PQAt wr u v (L.setIfInBounds 15 true) (w1.heap.size, γ.2) (w1.alloc (.cells #[.int .i64 0, .int .i64 0] 24)) := by
  have hm : Mod Nothing w1 (w1.alloc (.cells #[.int .i64 0, .int .i64 0] 24)) := (Mod.refl _ _).alloc _
  have h17 : L.getD 17 false = false := by
    cases e : L.getD 17 false with
    | false => rfl
    | true => have := h.p1 e; rw [getD_un hu] at this; cases this
  refine ⟨h.base.trans hm (fun _ _ h => h), fun _ => ?_, ?_, fun _ => ?_, ?_, ?_⟩
  · rw [getD_set_ne false (by decide), h17]
    exact ⟨h.base.size, Bk.new _ _ _⟩
  · rw [getD_set_ne false (by decide), getD_set_ne false (by decide)]
    exact fun e => ⟨(h.q e).1, hm.bk (h.q e).2 id⟩
  · rw [getD_set_ne false (by decide)]
    exact fun e => Ne.symm (Nat.ne_of_lt (h.q e).2.lt)
  · intro _; exact getD_put hu
  · rw [getD_set_ne false (by decide), getD_set_ne false (by decide)]; exact h.q1
theorem PQAt.new2 {wr : World} {u v : Pt} {L : Array Bool} {γ : Nat × Nat} {w1 : World} (h : PQAt wr u v L γ w1) (hu : L.getD 16 true = false) :
    PQAt wr u v (L.setIfInBounds 16 true) (γ.1, w1.heap.size) (w1.alloc (.cells #[.int .i64 0, .int .i64 0] 24)) := by
  have hm : Mod Nothing w1 (w1.alloc (.cells #[.int .i64 0, .int .i64 0] 24)) := (Mod.refl _ _).alloc _
  have h18 : L.getD 18 false = false := by
    cases e : L.getD 18 false with
    | false => rfl
    | true => have := h.q1 e; rw [getD_un hu] at this; cases this
  refine ⟨h.base.trans hm (fun _ _ h => h), ?_, fun _ => ?_, ?_, ?_, ?_⟩
  · rw [getD_set_ne false (by decide), getD_set_ne false (by decide)]
    exact fun e => ⟨(h.p e).1, hm.bk (h.p e).2 id⟩
  · rw [getD_set_ne false (by decide), h18]
    exact ⟨h.base.size, Bk.new _ _ _⟩
  · rw [getD_set_ne false (by decide)]
    exact fun e _ => Nat.ne_of_lt (h.p e).2.lt
  · rw [getD_set_ne false (by decide), getD_set_ne false (by decide)]; exact h.p1
  · intro _; exact getD_put hu
theorem PQAt.put1 {wr : World} {u v : Pt} {L : Array Bool} {γ : Nat × Nat} {w1 : World} (h : PQAt wr u v L γ w1) (hu : L.getD 17 true = false) (hl : L.getD 15 false = true) :
    PQAt wr u v (L.setIfInBounds 17 true) γ ((w1.setCell ⟨γ.1, 0, none⟩ (.int .i64 u.x)).setCell ⟨γ.1, 1, none⟩ (.int .i64 u.y)) := by
  obtain ⟨h1, h2⟩ := h.p hl
  rw [getD_un hu] at h2
  refine ⟨(h.base.setNew (p := ⟨γ.1, 0, none⟩) h1 _).setNew (p := ⟨γ.1, 1, none⟩) h1 _, fun _ => ?_, ?_, ?_, fun _ => ?_, ?_⟩
  · rw [if_pos (getD_put hu)]
    exact ⟨h1, (h2.set 0 _).set 1 _⟩
  · rw [getD_set_ne false (by decide), getD_set_ne false (by decide)]
    exact fun e => ⟨(h.q e).1, ((h.q e).2.far (Ne.symm (h.ne hl e)) _).far (Ne.symm (h.ne hl e)) _⟩
  · rw [getD_set_ne false (by decide), getD_set_ne false (by decide)]; exact h.ne
  · rw [getD_set_ne false (by decide)]; exact hl
  · rw [getD_set_ne false (by decide), getD_set_ne false (by decide)]; exact h.q1
theorem PQAt.put2 {wr : World} {u v : Pt} {L : Array Bool} {γ : Nat × Nat} {w1 : World} (h : PQAt wr u v L γ w1) (hu : L.getD 18 true = false) (hl : L.getD 16 false = true) :
    PQAt wr u v (L.setIfInBounds 18 true) γ ((w1.setCell ⟨γ.2, 0, none⟩ (.int .i64 v.x)).setCell ⟨γ.2, 1, none⟩ (.int .i64 v.y)) := by
  obtain ⟨h1, h2⟩ := h.q hl
  rw [getD_un hu] at h2
  refine ⟨(h.base.setNew (p := ⟨γ.2, 0, none⟩) h1 _).setNew (p := ⟨γ.2, 1, none⟩) h1 _, ?_, fun _ => ?_, ?_, ?_, fun _ => ?_⟩
  · rw [getD_set_ne false (by decide), getD_set_ne false (by decide)]
    exact fun e => ⟨(h.p e).1, ((h.p e).2.far (h.ne e hl) _).far (h.ne e hl) _⟩
  · rw [if_pos (getD_put hu)]
    exact ⟨h1, (h2.set 0 _).set 1 _⟩
  · rw [getD_set_ne false (by decide), getD_set_ne false (by decide)]; exact h.ne
  · rw [getD_set_ne false (by decide), getD_set_ne false (by decide)]; exact h.p1
  · rw [getD_set_ne false (by decide)]; exact hl

/-- Two points more behind now. -/
theorem LineAt.grow {w W w2 : World} {S : Nat → Prop} {gn go gp gq g cap : Nat} {nv ov : Value} {l : List Pt} {ls : List (List Pt)} {u v : Pt}
    (h : Bk w gn 22 [nv] ∧ Bk w go 29 [ov] ∧ OwnPts w nv l ∧ (∀ k, nv.ownBlock = some k → S k) ∧ PartsAt w (fun k => S k ∧ k ≠ gn ∧ nv.ownBlock ≠ some k) ov ls ∧ S gn ∧ S go) (hW : Mod Nothing w W) (hgrow : W.grownBy w2 nv.ownBlock) (hat : nv.ownBlock = some g ∨ g = w.heap.size + 1) (hU : Up S w)
    (hWs : W.heap.size = w.heap.size + 1) (hown : w2.ownsRow 0 24 2 (.slice (some ⟨g, 0, none⟩) (l.length + 2) cap) (l.length + 2) (ptCells l ++ ptCells [u, v])) :
    LineAt (w2.setCell ⟨gn, 0, none⟩ (.slice (some ⟨g, 0, none⟩) (l.length + 2) cap)) S gn go (l ++ [u, v]) ls ∧ Mod S w (w2.setCell ⟨gn, 0, none⟩ (.slice (some ⟨g, 0, none⟩) (l.length + 2) cap)) := by
  obtain ⟨h1, h2, h3, h4, h5, h6, h7⟩ := h
  have hm : Mod (fun k => nv.ownBlock = some k) w w2 := (hW.mono (S' := fun k => nv.ownBlock = some k) (fun _ _ h => h.elim)).grown hgrow (fun k hk _ => hk)
  have b1 : Bk w2 gn 22 [nv] := hm.bk h1 (fun e => own_ne h3 e h1 (by decide) rfl)
  have b2 : Bk w2 go 29 [ov] := hm.bk h2 (fun e => own_ne h3 e h2 (by decide) rfl)
  have hg : S g := by
    rcases hat with hat | hat
    · exact h4 g hat
    · exact hU g (by omega)
  have own2 : OwnPts w2 (.slice (some ⟨g, 0, none⟩) (l.length + 2) cap) (l ++ [u, v]) := by
    unfold OwnPts
    rw [ptCells_append, List.length_append]
    exact hown
  have hp : PartsAt w2 (fun k => S k ∧ k ≠ gn ∧ g ≠ k) ov ls := by
    refine (h5.mono (S' := fun k => S k ∧ k ≠ gn ∧ nv.ownBlock ≠ some k ∧ k < w.heap.size) (fun k hk hs => ⟨hs.1, hs.2.1, hs.2.2, hk⟩)).mod hm (fun k hk => hk.2.2.1) |>.mono (fun k _ hs => ⟨hs.1, hs.2.1, ?_⟩)
    rintro rfl
    rcases hat with hat | hat
    · exact hs.2.2.1 hat
    · have := hs.2.2.2; omega
  refine ⟨⟨⟨_, ov, b1.set 0 _, b2.far (b2.ne b1 (by decide)) _, own_keep own2 fun k hk => Below.heap_setCell _ _ _ _ (own_ne own2 hk b1 (by decide)), fun k hk => ?_, ?_⟩, h6, h7⟩, (hm.mono (fun k _ hk => h4 k hk)).setCell (p := ⟨gn, 0, none⟩) (fun _ => h6) _⟩
  · have : g = k := by simpa [Value.ownBlock] using hk
    subst this; exact hg
  · exact (hp.mod ((Mod.refl (fun k => k = gn) w2).setCell (p := ⟨gn, 0, none⟩) (fun _ => rfl) _) (fun k hk => hk.2.1)).mono (fun k _ hs => ⟨hs.1, hs.2.1, by simpa [Value.ownBlock] using hs.2.2⟩)

set_option maxRecDepth 100000 in
set_option maxHeartbeats 8000000 in
theorem line_any {w : World} (A : Option Addr) (c n : Nat) (l : List Pt) (b : Bx) (hn : l.length = n) (hl : PtsAt w w.heap.size A l) (hm : n ≤ 100000) (hwf : ∀ p ∈ l, PtWf p) (hb : BxWf b) :
    Calls Try.prog 12 #[.slice A n c, bxV b] w fun e w' => ∃ v, e = .returned v ∧ PartsAt w' (From w.heap.size) v (lineF l b) ∧ Mod Nothing w w' := by
  have hl0 : PtsAt (w.alloc (.cells #[.int .i64 b.lo.x, .int .i64 b.lo.y, .int .i64 b.hi.x, .int .i64 b.hi.y] 26)) w.heap.size A l := hl.keep fun k hk => Below.heap_alloc _ _ _ hk
  have HP := hid_ (proper_any (w.alloc (.cells #[.int .i64 b.lo.x, .int .i64 b.lo.y, .int .i64 b.hi.x, .int .i64 b.hi.y] 26)) A c n l b hn (hl0.mono (by simp)) (by omega) hwf hb)
  have HL := hid_ hl
  have HN := hid_ hn
  clear hl hn hwf hl0
  cases hpr : propB l b with
  | false =>
    have e : lineF l b = [] := by unfold lineF; rw [if_neg (by rw [hpr]; simp)]
    rw [hpr] at HP
    go_enter Try.func12, Try.ntmps12
    go_wp2_with fail
    refine HP.out.mono ?_
    rintro e w1 ⟨rfl, hm1⟩
    have HM1 := hid_ hm1
    clear hm1
    go_wp2
    go_returns
    rw [e]
    exact ⟨_, rfl, PartsAt.nil _ _, ((Mod.refl _ _).alloc _).trans HM1.out (fun _ _ h => h)⟩
  | true =>
    obtain ⟨hpl, hblo, hbhi, -, -⟩ := prop_near hpr
    rw [hpr] at HP
    have HPL := hid_ hpl
    have HBL := hid_ hblo
    have HBH := hid_ hbhi
    have e : lineF l b = (flush (lineS b (pairs l))).2 := by unfold lineF; rw [if_pos hpr]
    have HE := hid_ e
    clear hpr hpl hblo hbhi e
    go_enter Try.func12, Try.ntmps12
    go_wp2_with fail
    refine HP.out.mono ?_
    rintro e w1 ⟨rfl, hm1⟩
    have HK1 := hid_ (hm1.bk (Bk.new w 26 [.int .i64 b.lo.x, .int .i64 b.lo.y, .int .i64 b.hi.x, .int .i64 b.hi.y]) id)
    have HM1 := hid_ (((Mod.refl Nothing w).alloc (.cells #[.int .i64 b.lo.x, .int .i64 b.lo.y, .int .i64 b.hi.x, .int .i64 b.hi.y] 26)).trans hm1 (fun _ _ h => h))
    have hsz : w.heap.size < w1.heap.size := by have := hm1.size; simp at this; omega
    have HL1 := hid_ (HL.out.keep (w' := w1) (fun k hk => HM1.out.block k hk id))
    clear hm1
    obtain ⟨N, hN⟩ : ∃ N, N = w1.heap.size := ⟨_, rfl⟩
    go_wp2_with fail
    have hL0 : LineAt ((w1.alloc (.cells #[.slice none 0 0] 29)).alloc (.cells #[.slice none 0 0] 22)) (From N) (N + 1) N [] [] := by
      subst hN
      have b1 : Bk ((w1.alloc (.cells #[.slice none 0 0] 29)).alloc (.cells #[.slice none 0 0] 22)) w1.heap.size 29 [.slice none 0 0] := (Bk.new w1 29 [.slice none 0 0]).alloc _
      have b2 : Bk ((w1.alloc (.cells #[.slice none 0 0] 29)).alloc (.cells #[.slice none 0 0] 22)) (w1.heap.size + 1) 22 [.slice none 0 0] := by
        have h := Bk.new (w1.alloc (.cells #[.slice none 0 0] 29)) 22 [.slice none 0 0]
        simpa using h
      exact ⟨⟨_, _, b2, b1, World.ownsRow_nil _ _ _ _, fun k hk => by simp [Value.ownBlock] at hk, PartsAt.nil _ _⟩, Nat.le_succ _, Nat.le_refl _⟩
    have HL0 := hid_ hL0
    have HM2 := hid_ (((Mod.refl (From N) w1).alloc (.cells #[.slice none 0 0] 29)).alloc (.cells #[.slice none 0 0] 22))
    simp only [← hN]
    have HNN := hid_ hN
    have hwN : w.heap.size < N := by omega
    clear hL0 hN hsz
    go_loopw [8] (fun t wr => ∃ k : Nat, 1 ≤ k ∧ k ≤ n + 1 ∧ t = .int .i64 k ∧ LineAt wr (From N) (N + 1) N (lineS b ((pairs l).take (k - 1))).1 (lineS b ((pairs l).take (k - 1))).2 ∧ Mod (From N) w1 wr) (fun t _ => n - (intOf t).toNat)
    case atStart => exact ⟨1, by omega, by omega, rfl, HL0.out, HM2.out⟩
    case round =>
      obtain ⟨k, hk1, hk, rfl, hli, hmd⟩ := hrel
      have HLI := hid_ hli
      have HMD := hid_ hmd
      clear hli hmd
      by_cases hlt : k < n
      · obtain ⟨p, hp⟩ : ∃ p, l[k - 1]? = some p := ⟨_, List.getElem?_eq_getElem (by rw [HN.out]; omega)⟩
        obtain ⟨q, hq⟩ : ∃ q, l[k]? = some q := ⟨_, List.getElem?_eq_getElem (by rw [HN.out]; omega)⟩
        have HLR := hid_ (HL1.out.keep (w' := wr) (fun j hj => HMD.out.block j (by rw [← HNN.out]; omega) (by show ¬ N ≤ j; omega)))
        have HBR := hid_ (HMD.out.bk HK1.out (by show ¬ N ≤ w.heap.size; omega))
        obtain ⟨bb, off, hA, hbb, p0, p1⟩ := HLR.out (k - 1) p hp
        obtain ⟨bb', off', hA', hbb', q0, q1⟩ := HLR.out k q hq
        rw [hA] at hA'
        simp only [Option.some.injEq, Addr.mk.injEq] at hA'
        obtain ⟨rfl, rfl, -⟩ := hA'
        obtain ⟨b0, b1, b2, b3, -, -, -, -, hbl⟩ := HBR.out.four
        have HP1 := hid_ hp
        have HQ1 := hid_ hq
        have CP := hid_ (fun w' => piece_any (w := w') p q b (HPL.out p (List.mem_of_getElem? hp)) (HPL.out q (List.mem_of_getElem? hq)) HBL.out HBH.out)
        obtain ⟨R, hR⟩ : ∃ R, R = pieceF p q b := ⟨_, rfl⟩
        rw [← hR] at CP
        have HR := hid_ hR
        have HA := hid_ hA
        subst hA
        have v1 : IntKind.i64.wrap ((k : Int) - 1) = (k : Int) - 1 := IntWalk.i64_in _ (by omega)
        have v2 : ((k : Int) - 1).toNat = k - 1 := by omega
        have v3 : (0 : Int) ≤ (k : Int) - 1 := by omega
        have v4 : (k : Int) - 1 < n := by omega
        have v5 : (0 : Int) ≤ (k : Int) := by omega
        have v6 : (k : Int) < n := by omega
        have hbl2 : bb < wr.heap.size := by have := HMD.out.size; rw [← HNN.out] at this; omega
        have v7 : (1 : Int) ≤ (k : Int) := by omega
        have HE := hid_ (show Eight bb (off + (k - 1) * 2) (off + k * 2) w.heap.size p q b wr from ⟨p0, p1, q0, q1, b0, b1, b2, b3⟩)
        clear hp hq hR
        go_wp2_with fail
        go_cut [9, 10, 11] (fun x y z wc => ∃ gp gq, x = gptr gp ∧ y = gptr gq ∧ z = .bool R.2.2 ∧ Bk wc gp 24 [.int .i64 R.1.x, .int .i64 R.1.y] ∧ Bk wc gq 24 [.int .i64 R.2.1.x, .int .i64 R.2.1.y] ∧ wr.heap.size ≤ gp ∧ wr.heap.size ≤ gq ∧ Mod Nothing wr wc)
        case first =>
          refine wp_region_ghost (0, 0) (fun γ => [.slice (some ⟨bb, off, none⟩) n c, .int .i64 k, .int .i64 ((k : Int) - 1), .pointer (some ⟨bb, off + (k - 1) * 2, none⟩), ptV p, .slice (some ⟨bb, off, none⟩) n c, .int .i64 k, .pointer (some ⟨bb, off + k * 2, none⟩), ptV q, bxV b,
            .tuple #[ptV R.1, ptV R.2.1, .bool R.2.2], .tuple #[ptV R.1, ptV R.2.1, .bool R.2.2], ptV R.1, ptV R.2.1, .bool R.2.2, gptr γ.1, gptr γ.2, undef, undef, .bool R.2.2]) (PQAt wr R.1 R.2.1) (by kernel_rfl) (by kernel_rfl)
            (fun γ => by simp only [putAll, Act.put, List.setIfInBounds_toArray, List.set_cons_zero, List.set_cons_succ]; rfl) ?_ ?_ ?_
          · exact ⟨(Mod.refl _ _).drew, fun h => by simp at h, fun h => by simp at h, fun h => by simp at h, fun h => by simp at h, fun h => by simp at h⟩
          · refine ⟨?_, ?_, ?_, ?_, ?_, ?_, ?_, ?_, ?_, ?_, ?_, ?_, ?_, ?_, ?_, ?_, ?_, ?_, ?_, ?_, trivial⟩
            · intro L γ w' hun hw hC
              refine step_yes rfl ?_
              have HC := hid_ hC

              clear hun hw hC
              go_simp
              exact turned γ rfl (HC.out.skip (Mod.refl _ _) 0 (by decide) (by decide) (by decide) (by decide))
            · intro L γ w' hun hw hC
              refine step_yes rfl ?_
              have HC := hid_ hC

              clear hun hw hC
              go_simp
              exact turned γ rfl (HC.out.skip (Mod.refl _ _) 1 (by decide) (by decide) (by decide) (by decide))
            · intro L γ w' hun hw hC
              refine step_yes rfl ?_
              have HC := hid_ hC

              clear hun hw hC
              go_simp
              exact turned γ rfl (HC.out.skip (Mod.refl _ _) 2 (by decide) (by decide) (by decide) (by decide))
            · intro L γ w' hun hw hC
              refine step_yes rfl ?_
              have HC := hid_ hC

              clear hun hw hC
              go_simp
              exact turned γ rfl (HC.out.skip (Mod.refl _ _) 3 (by decide) (by decide) (by decide) (by decide))
            · intro L γ w' hun hw hC
              refine step_yes rfl ?_
              have HC := hid_ hC
              obtain ⟨p0, p1, q0, q1, b0, b1, b2, b3⟩ := HE.out.mod hC.base hbl2 hbl
              clear hun hw hC
              go_simp
              exact turned γ rfl (HC.out.skip (Mod.refl _ _) 4 (by decide) (by decide) (by decide) (by decide))
            · intro L γ w' hun hw hC
              refine step_yes rfl ?_
              have HC := hid_ hC

              clear hun hw hC
              go_simp
              exact turned γ rfl (HC.out.skip (Mod.refl _ _) 5 (by decide) (by decide) (by decide) (by decide))
            · intro L γ w' hun hw hC
              refine step_yes rfl ?_
              have HC := hid_ hC

              clear hun hw hC
              go_simp
              exact turned γ rfl (HC.out.skip (Mod.refl _ _) 6 (by decide) (by decide) (by decide) (by decide))
            · intro L γ w' hun hw hC
              refine step_yes rfl ?_
              have HC := hid_ hC

              clear hun hw hC
              go_simp
              exact turned γ rfl (HC.out.skip (Mod.refl _ _) 7 (by decide) (by decide) (by decide) (by decide))
            · intro L γ w' hun hw hC
              refine step_yes rfl ?_
              have HC := hid_ hC
              obtain ⟨p0, p1, q0, q1, b0, b1, b2, b3⟩ := HE.out.mod hC.base hbl2 hbl
              clear hun hw hC
              go_simp
              exact turned γ rfl (HC.out.skip (Mod.refl _ _) 8 (by decide) (by decide) (by decide) (by decide))
            · intro L γ w' hun hw hC
              refine step_yes rfl ?_
              have HC := hid_ hC
              obtain ⟨p0, p1, q0, q1, b0, b1, b2, b3⟩ := HE.out.mod hC.base hbl2 hbl
              clear hun hw hC
              go_simp
              exact turned γ rfl (HC.out.skip (Mod.refl _ _) 9 (by decide) (by decide) (by decide) (by decide))
            · intro L γ w' hun hw hC
              refine step_yes rfl ?_
              have HC := hid_ hC
              clear hun hw hC
              go_simp
              refine (CP.out _).mono ?_
              rintro e w3 ⟨rfl, hm⟩
              exact turned γ rfl (HC.out.skip hm 10 (by decide) (by decide) (by decide) (by decide))
            · intro L γ w' hun hw hC
              refine step_yes rfl ?_
              have HC := hid_ hC

              clear hun hw hC
              go_simp
              exact turned γ rfl (HC.out.skip (Mod.refl _ _) 11 (by decide) (by decide) (by decide) (by decide))
            · intro L γ w' hun hw hC
              refine step_yes rfl ?_
              have HC := hid_ hC

              clear hun hw hC
              go_simp
              exact turned γ rfl (HC.out.skip (Mod.refl _ _) 12 (by decide) (by decide) (by decide) (by decide))
            · intro L γ w' hun hw hC
              refine step_yes rfl ?_
              have HC := hid_ hC

              clear hun hw hC
              go_simp
              exact turned γ rfl (HC.out.skip (Mod.refl _ _) 13 (by decide) (by decide) (by decide) (by decide))
            · intro L γ w' hun hw hC
              refine step_yes rfl ?_
              have HC := hid_ hC

              clear hun hw hC
              go_simp
              exact turned γ rfl (HC.out.skip (Mod.refl _ _) 14 (by decide) (by decide) (by decide) (by decide))
            · intro L γ w' hun hw hC
              refine step_yes rfl ?_
              have HC := hid_ hC
              have HU := hid_ hun
              clear hun hw hC
              go_simp
              exact turned (_, γ.2) rfl (HC.out.new1 HU.out)
            · intro L γ w' hun hw hC
              refine step_yes rfl ?_
              have HC := hid_ hC
              have HU := hid_ hun
              clear hun hw hC
              go_simp
              exact turned (γ.1, _) rfl (HC.out.new2 HU.out)
            · intro L γ w' hun hw hC
              refine step_yes rfl ?_
              have hl : L.getD 15 false = true := hw ⟨15, .data⟩ (by simp) rfl
              have hb := (hC.p hl).2
              rw [getD_un hun] at hb
              obtain ⟨c0, c1, f0, f1, hlt0⟩ := hb.two
              have HC := hid_ hC
              have HU := hid_ hun
              have HLL := hid_ hl
              clear hun hw hC hl hb
              go_simp
              exact turned γ rfl (HC.out.put1 HU.out HLL.out)
            · intro L γ w' hun hw hC
              refine step_yes rfl ?_
              have hl : L.getD 16 false = true := hw ⟨16, .data⟩ (by simp) rfl
              have hb := (hC.q hl).2
              rw [getD_un hun] at hb
              obtain ⟨c0, c1, f0, f1, hlt0⟩ := hb.two
              have HC := hid_ hC
              have HU := hid_ hun
              have HLL := hid_ hl
              clear hun hw hC hl hb
              go_simp
              exact turned γ rfl (HC.out.put2 HU.out HLL.out)
            · intro L γ w' hun hw hC
              refine step_yes rfl ?_
              have HC := hid_ hC

              clear hun hw hC
              go_simp
              exact turned γ rfl (HC.out.skip (Mod.refl _ _) 19 (by decide) (by decide) (by decide) (by decide))
          · intro L γ w' hall hC
            have e15 := hall 15 (by decide)
            have e16 := hall 16 (by decide)
            have hp := hC.p e15
            have hq := hC.q e16
            rw [if_pos (hall 17 (by decide))] at hp
            rw [if_pos (hall 18 (by decide))] at hq
            have HX := hid_ (show Bk w' γ.1 24 [.int .i64 R.1.x, .int .i64 R.1.y] ∧ Bk w' γ.2 24 [.int .i64 R.2.1.x, .int .i64 R.2.1.y] ∧ wr.heap.size ≤ γ.1 ∧ wr.heap.size ≤ γ.2 ∧ Mod Nothing wr w' from ⟨hp.2, hq.2, hp.1, hq.1, hC.base⟩)
            clear hp hq e15 e16 hall hC
            go_wp2
            go_meet
            exact ⟨γ.1, γ.2, rfl, rfl, rfl, HX.out⟩
        case rest =>
          obtain ⟨gp, gq, rfl, rfl, rfl, hgp, hgq, hgp0, hgq0, hmc⟩ := hcut
          have HLI2 := hid_ ((HLI.out.mono (S' := fun k => N ≤ k ∧ k ≠ gp ∧ k ≠ gq) (fun k hk hs => ⟨hs, by omega, by omega⟩)).mod hmc)
          have HGP := hid_ hgp
          have HGQ := hid_ hgq
          have HMD2 := hid_ (HMD.out.trans hmc (fun _ _ h => h.elim))
          have HE2 := hid_ (HE.out.mod hmc hbl2 hbl)
          have hbl3 : bb < wc.heap.size := Nat.lt_of_lt_of_le hbl2 hmc.size
          have hbl4 : w.heap.size < wc.heap.size := Nat.lt_of_lt_of_le hbl hmc.size
          clear hgp hgq hmc p0 p1 q0 q1 b0 b1 b2 b3
          go_wp2_with fail
          refine wp_region_stepsC [.slice (some ⟨bb, off, none⟩) n c, .int .i64 k, .int .i64 ((k : Int) - 1), .pointer (some ⟨bb, off + (k - 1) * 2, none⟩), ptV p, bxV b, .bool (inB p b), .bool (!inB p b)] (Mod Nothing wc) (by kernel_rfl) (by kernel_rfl)
            (by simp only [putAll, Act.put, List.setIfInBounds_toArray, List.set_cons_zero, List.set_cons_succ]; rfl) ((Mod.refl _ _).drew) ?_ ?_
          · refine ⟨?_, ?_, ?_, ?_, ?_, ?_, ?_, ?_, trivial⟩
            · intro L w' hun hw hC
              refine step_yes rfl ?_
              have HC := hid_ hC
              clear hun hw hC
              go_simp
              exact still rfl HC.out
            · intro L w' hun hw hC
              refine step_yes rfl ?_
              have HC := hid_ hC
              clear hun hw hC
              go_simp
              exact still rfl HC.out
            · intro L w' hun hw hC
              refine step_yes rfl ?_
              have HC := hid_ hC
              clear hun hw hC
              go_simp
              exact still rfl HC.out
            · intro L w' hun hw hC
              refine step_yes rfl ?_
              have HC := hid_ hC
              clear hun hw hC
              go_simp
              exact still rfl HC.out
            · intro L w' hun hw hC
              refine step_yes rfl ?_
              have HC := hid_ hC
              obtain ⟨p0, p1, q0, q1, b0, b1, b2, b3⟩ := HE2.out.mod HC.out hbl3 hbl4
              clear hun hw hC
              go_simp
              exact still rfl HC.out
            · intro L w' hun hw hC
              refine step_yes rfl ?_
              have HC := hid_ hC
              obtain ⟨p0, p1, q0, q1, b0, b1, b2, b3⟩ := HE2.out.mod HC.out hbl3 hbl4
              clear hun hw hC
              go_simp
              exact still rfl HC.out
            · intro L w' hun hw hC
              refine step_yes rfl ?_
              have HC := hid_ hC
              clear hun hw hC
              go_simp
              refine (in_any p b _).mono ?_
              rintro e w3 ⟨rfl, hm⟩
              exact still rfl (HC.out.trans hm (fun _ _ h => h))
            · intro L w' hun hw hC
              refine step_yes rfl ?_
              have HC := hid_ hC
              clear hun hw hC
              go_simp
              exact still rfl HC.out
          · intro w3 hm3
            have HLI3 := hid_ (HLI2.out.mod hm3)
            have HLI3b := hid_ (⟨hm3.bk HGP.out id, hm3.bk HGQ.out id⟩ : Bk w3 gp 24 [.int .i64 R.1.x, .int .i64 R.1.y] ∧ Bk w3 gq 24 [.int .i64 R.2.1.x, .int .i64 R.2.1.y])
            have HLI3m := hid_ (HMD2.out.trans hm3 (fun _ _ h => h.elim))
            have hs3 := hm3.size
            have HUPw3 := hid_ (show Up (fun k => N ≤ k ∧ k ≠ gp ∧ k ≠ gq) w3 from fun j hj => ⟨by have := HLI3m.out.size; rw [← HNN.out] at this; omega, by have := HLI3b.out.1.lt; omega, by have := HLI3b.out.2.lt; omega⟩)
            have hTl : (lineS b ((pairs l).take (k - 1))).2.length ≤ 100000 ∧ (lineS b ((pairs l).take (k - 1))).1.length ≤ 200000 := by
              have h1 := lineS_len b ((pairs l).take (k - 1))
              rw [List.length_take] at h1
              omega
            have HTL := hid_ hTl
            clear hm3 hTl
            cases hin : inB p b
            · have HIN := hid_ hin
              clear hin
              go_wp2_with fail
              refine (end_any HLI3.out HUPw3.out (by have := HTL.out; omega) (by have := HTL.out; omega)).mono ?_
              rintro e w4 ⟨rfl, hl4, hm4⟩
              have HLI4 := hid_ hl4
              have HLI4b := hid_ (⟨hm4.bk HLI3b.out.1 (fun h => h.2.1 rfl), hm4.bk HLI3b.out.2 (fun h => h.2.2 rfl)⟩ : Bk w4 gp 24 [.int .i64 R.1.x, .int .i64 R.1.y] ∧ Bk w4 gq 24 [.int .i64 R.2.1.x, .int .i64 R.2.1.y])
              have HLI4m := hid_ (HLI3m.out.trans hm4 (fun _ _ h => h.1))
              have HUPw4 := hid_ (HUPw3.out.mod hm4)
              clear hl4 hm4
              have hgp1 := HLI4b.out.1
              have hgq1 := HLI4b.out.2
              cases hok : R.2.2
              · have e : lineS b ((pairs l).take (k + 1 - 1)) = flush (lineS b ((pairs l).take (k - 1))) := by
                  rw [show k + 1 - 1 = k - 1 + 1 by omega, lineS_succ b l (k - 1) p q HP1.out (by rw [show k - 1 + 1 = k by omega]; exact HQ1.out), lineStep]
                  simp [HIN.out, ← HR.out, hok]
                have HEE := hid_ e
                clear e
                go_wp2
                go_roundw
                case rel => exact ⟨k + 1, by omega, by omega, by go_num, by rw [HEE.out]; exact HLI4.out.mono (fun k _ hs => hs.1), HLI4m.out⟩
                case measure => simp [intOf]; omega
              · have e : lineS b ((pairs l).take (k + 1 - 1)) = ((flush (lineS b ((pairs l).take (k - 1)))).1 ++ [R.1, R.2.1], (flush (lineS b ((pairs l).take (k - 1)))).2) := by
                  rw [show k + 1 - 1 = k - 1 + 1 by omega, lineS_succ b l (k - 1) p q HP1.out (by rw [show k - 1 + 1 = k by omega]; exact HQ1.out), lineStep]
                  simp [HIN.out, ← HR.out, hok]
                have HEE := hid_ e
                have hlen : (flush (lineS b ((pairs l).take (k - 1)))).1.length ≤ 200000 := by
                  have h1 := lineS_len b ((pairs l).take (k - 1))
                  rw [List.length_take] at h1
                  have h2 := (flush_len (lineS b ((pairs l).take (k - 1)))).1
                  omega
                obtain ⟨T, hT⟩ : ∃ T, T = flush (lineS b ((pairs l).take (k - 1))) := ⟨_, rfl⟩
                have HLX := hid_ HLI4.out
                rw [← hT] at HLX hlen HEE
                have hlx := HLX.out
                clear e hT
                obtain ⟨⟨nv, ov, h1, h2, h3, h4, h5⟩, h6, h7⟩ := hlx
                have c0 := h1.cell 0
                have f0 := h1.frozen 0
                have hl0 := h1.lt
                simp only [List.getElem?_cons_zero] at c0
                obtain ⟨g0, g1, -, -, hgl⟩ := hgp1.two
                obtain ⟨k0, k1, -, -, hkl⟩ := hgq1.two
                obtain ⟨i0, hi0, hz0, hz1, hz2⟩ := info_parts Try.info24
                have HI0 := hid_ hi0
                have HZ0 := hid_ hz0
                have HZ1 := hid_ hz1
                have HZ2 := hid_ hz2
                have H1 := hid_ h1
                have H2 := hid_ h2
                have H3 := hid_ h3
                have H4 := hid_ h4
                have H5 := hid_ h5
                have hne : some (N + 1) ≠ nv.ownBlock := fun e => own_ne h3 e.symm h1 (by decide) rfl
                have HNE := hid_ hne
                clear hi0 hz0 hz1 hz2 h1 h2 h3 h4 h5 hgp1 hgq1 hne
                go_wp2_with (at_builtin; refine wpList_append_lies _ rfl (.tmp 49) (.tmp 52) 22 rfl 0 24 i0 _ 2 16 Try.underlying22 HI0.out HZ0.out HZ1.out HZ2.out rfl (by decide) nv T.1.length (ptCells T.1) rfl (H3.out.alloc _) ⟨w4.heap.size, 0, none⟩ 2 2 (ptCells [R.1, R.2.1]) rfl rfl (World.news_of_block (cs := #[.int .i64 R.1.x, .int .i64 R.1.y, .int .i64 R.2.1.x, .int .i64 R.2.1.y]) (t := 24) (fr := (0, 0)) (heap_alloc_new _ _)) (ptCells_one _) (by decide) (by unfold maxLen; omega) (by omega) (by omega) (w4.heap.size + 1) (by simp) ?_)
                intro g cap w5 hown5 hgrow5 hat5 hlt5
                obtain ⟨hx, hy⟩ := LineAt.grow (gp := gp) (gq := gq) (u := R.1) (v := R.2.1) ⟨H1.out, H2.out, H3.out, H4.out, H5.out, h6, h7⟩ (S := fun k => N ≤ k ∧ k ≠ gp ∧ k ≠ gq) (W := w4.alloc (.cells #[.int .i64 R.1.x, .int .i64 R.1.y, .int .i64 R.2.1.x, .int .i64 R.2.1.y] 24)) ((Mod.refl _ _).alloc _) hgrow5 (by simpa using hat5) HUPw4.out (by simp) hown5
                have HX := hid_ hx
                have HY := hid_ hy
                have c5 : w5.cell? ⟨N + 1, 0, none⟩ = some nv := (hgrow5.cell_far ⟨N + 1, 0, none⟩ (by simp; omega) HNE.out).trans (by simp [go_sem, c0, hl0])
                have f5 : w5.frozen? ⟨N + 1, 0, none⟩ = false := (hgrow5.frozen_far ⟨N + 1, 0, none⟩ (by simp; omega) HNE.out).trans (by simp [go_sem, f0, hl0])
                clear c0 f0 g0 g1 k0 k1 hown5 hgrow5 hat5 hx hy
                go_wp2
                go_roundw
                case rel => exact ⟨k + 1, by omega, by omega, by go_num, by rw [HEE.out]; exact HX.out.mono (fun k _ hs => hs.1), HLI4m.out.trans HY.out (fun _ _ h => h.1)⟩
                case measure => simp [intOf]; omega
            · have HIN := hid_ hin
              clear hin
              have hgp1 := HLI3b.out.1
              have hgq1 := HLI3b.out.2
              cases hok : R.2.2
              · have e : lineS b ((pairs l).take (k + 1 - 1)) = lineS b ((pairs l).take (k - 1)) := by
                  rw [show k + 1 - 1 = k - 1 + 1 by omega, lineS_succ b l (k - 1) p q HP1.out (by rw [show k - 1 + 1 = k by omega]; exact HQ1.out), lineStep]
                  simp [HIN.out, ← HR.out, hok]
                have HEE := hid_ e
                clear e
                go_wp2
                go_roundw
                case rel => exact ⟨k + 1, by omega, by omega, by go_num, by rw [HEE.out]; exact HLI3.out.mono (fun k _ hs => hs.1), HLI3m.out⟩
                case measure => simp [intOf]; omega
              · have e : lineS b ((pairs l).take (k + 1 - 1)) = ((lineS b ((pairs l).take (k - 1))).1 ++ [R.1, R.2.1], (lineS b ((pairs l).take (k - 1))).2) := by
                  rw [show k + 1 - 1 = k - 1 + 1 by omega, lineS_succ b l (k - 1) p q HP1.out (by rw [show k - 1 + 1 = k by omega]; exact HQ1.out), lineStep]
                  simp [HIN.out, ← HR.out, hok]
                have HEE := hid_ e
                have hlen : (lineS b ((pairs l).take (k - 1))).1.length ≤ 200000 := by
                  have h1 := lineS_len b ((pairs l).take (k - 1))
                  rw [List.length_take] at h1
                  skip
                  omega
                obtain ⟨T, hT⟩ : ∃ T, T = lineS b ((pairs l).take (k - 1)) := ⟨_, rfl⟩
                have HLX := hid_ HLI3.out
                rw [← hT] at HLX hlen HEE
                have hlx := HLX.out
                clear e hT
                obtain ⟨⟨nv, ov, h1, h2, h3, h4, h5⟩, h6, h7⟩ := hlx
                have c0 := h1.cell 0
                have f0 := h1.frozen 0
                have hl0 := h1.lt
                simp only [List.getElem?_cons_zero] at c0
                obtain ⟨g0, g1, -, -, hgl⟩ := hgp1.two
                obtain ⟨k0, k1, -, -, hkl⟩ := hgq1.two
                obtain ⟨i0, hi0, hz0, hz1, hz2⟩ := info_parts Try.info24
                have HI0 := hid_ hi0
                have HZ0 := hid_ hz0
                have HZ1 := hid_ hz1
                have HZ2 := hid_ hz2
                have H1 := hid_ h1
                have H2 := hid_ h2
                have H3 := hid_ h3
                have H4 := hid_ h4
                have H5 := hid_ h5
                have hne : some (N + 1) ≠ nv.ownBlock := fun e => own_ne h3 e.symm h1 (by decide) rfl
                have HNE := hid_ hne
                clear hi0 hz0 hz1 hz2 h1 h2 h3 h4 h5 hgp1 hgq1 hne
                go_wp2_with (at_builtin; refine wpList_append_lies _ rfl (.tmp 49) (.tmp 52) 22 rfl 0 24 i0 _ 2 16 Try.underlying22 HI0.out HZ0.out HZ1.out HZ2.out rfl (by decide) nv T.1.length (ptCells T.1) rfl (H3.out.alloc _) ⟨w3.heap.size, 0, none⟩ 2 2 (ptCells [R.1, R.2.1]) rfl rfl (World.news_of_block (cs := #[.int .i64 R.1.x, .int .i64 R.1.y, .int .i64 R.2.1.x, .int .i64 R.2.1.y]) (t := 24) (fr := (0, 0)) (heap_alloc_new _ _)) (ptCells_one _) (by decide) (by unfold maxLen; omega) (by omega) (by omega) (w3.heap.size + 1) (by simp) ?_)
                intro g cap w5 hown5 hgrow5 hat5 hlt5
                obtain ⟨hx, hy⟩ := LineAt.grow (gp := gp) (gq := gq) (u := R.1) (v := R.2.1) ⟨H1.out, H2.out, H3.out, H4.out, H5.out, h6, h7⟩ (S := fun k => N ≤ k ∧ k ≠ gp ∧ k ≠ gq) (W := w3.alloc (.cells #[.int .i64 R.1.x, .int .i64 R.1.y, .int .i64 R.2.1.x, .int .i64 R.2.1.y] 24)) ((Mod.refl _ _).alloc _) hgrow5 (by simpa using hat5) HUPw3.out (by simp) hown5
                have HX := hid_ hx
                have HY := hid_ hy
                have c5 : w5.cell? ⟨N + 1, 0, none⟩ = some nv := (hgrow5.cell_far ⟨N + 1, 0, none⟩ (by simp; omega) HNE.out).trans (by simp [go_sem, c0, hl0])
                have f5 : w5.frozen? ⟨N + 1, 0, none⟩ = false := (hgrow5.frozen_far ⟨N + 1, 0, none⟩ (by simp; omega) HNE.out).trans (by simp [go_sem, f0, hl0])
                clear c0 f0 g0 g1 k0 k1 hown5 hgrow5 hat5 hx hy
                go_wp2
                go_roundw
                case rel => exact ⟨k + 1, by omega, by omega, by go_num, by rw [HEE.out]; exact HX.out.mono (fun k _ hs => hs.1), HLI3m.out.trans HY.out (fun _ _ h => h.1)⟩
                case measure => simp [intOf]; omega
      · have HLE := hid_ (show (pairs l).take (k - 1) = pairs l from List.take_of_length_le (by rw [pairs_len, HN.out]; omega))
        have hTl : (lineS b (pairs l)).2.length ≤ 100000 ∧ (lineS b (pairs l)).1.length ≤ 200000 := by
          have h1 := lineS_len b (pairs l)
          rw [pairs_len, HN.out] at h1
          omega
        have HTL := hid_ hTl
        have HLI2 := hid_ HLI.out
        rw [HLE.out] at HLI2
        clear hTl
        go_wp2_with fail
        refine (end_any HLI2.out (fun j hj => by have := HMD.out.size; rw [← HNN.out] at this; exact Nat.le_trans this hj) (by have := HTL.out; omega) (by have := HTL.out; omega)).mono ?_
        rintro e w4 ⟨rfl, hl4, hm4⟩
        have HM4 := hid_ (HMD.out.trans hm4 (fun _ _ h => h))
        obtain ⟨⟨nv, ov, h1, h2, h3, h4, h5⟩, h6, h7⟩ := hl4
        have c0 := h2.cell 0
        have hl0 := h2.lt
        simp only [List.getElem?_cons_zero] at c0
        have H5 := hid_ h5
        clear h1 h2 h3 h4 h5 h6 h7 hm4
        go_wp2
        go_returns
        rw [HE.out]
        exact ⟨_, rfl, H5.out.mono (fun k _ hs => by have h1 : N ≤ k := hs.1; show w.heap.size ≤ k; omega), HM1.out.trans HM4.out (fun i hi h => by have h1 : N ≤ i := h; omega)⟩
end Go.Proofs.Ytadiajlegajclaa
