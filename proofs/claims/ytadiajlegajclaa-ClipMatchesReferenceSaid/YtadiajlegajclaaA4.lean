/- piece. -/
import Derived.Test.YtadiajlegajclaaA3
import Derived.Test.YtadiajlegajclaaW1
import Derived.Deep.RegionHeld3
import Derived.Deep.RegionWith
import Derived.Deep.DeepCutAuto
import Derived.Deep.CutBlock
set_option linter.unusedVariables false
set_option linter.unusedSimpArgs false
namespace Go.Proofs.Ytadiajlegajclaa
open Go.RowKit

theorem rnd_bd {r : Ra} {n : Int} (hr : RaOk r) (h1 : -4194304 ≤ n) (h2 : n ≤ 4194304) : -100000000000000 ≤ rnd (r.1 * n) r.2 ∧ rnd (r.1 * n) r.2 ≤ 100000000000000 := by
  obtain ⟨r1, r2, r3, r4⟩ := hr
  obtain ⟨m1, m2⟩ := mul_bd (a := r.1) (b := n) (A := 4194304) (B := 4194304) (by omega) (by omega) (by omega) (by omega)
  obtain ⟨t1, t2⟩ := tdiv_bd (a := 2 * (r.1 * n) + r.2) (2 * r.2) (K := 50000000000000) (by omega) (by omega)
  rw [rnd_eq r1]
  split <;> omega

set_option maxHeartbeats 1000000 in
theorem at_any {w : World} {gp gx gy : Nat} (p : Pt) (dx dy : Int) (r : Ra) (hp : Bk w gp 24 [.int .i64 p.x, .int .i64 p.y]) (hx : Bk w gx 3 [.int .i64 dx]) (hy : Bk w gy 3 [.int .i64 dy])
    (hr : RaOk r) (hp1 : -2097152 ≤ p.x ∧ p.x ≤ 2097152) (hp2 : -2097152 ≤ p.y ∧ p.y ≤ 2097152) (hdx : -4194304 ≤ dx ∧ dx ≤ 4194304) (hdy : -4194304 ≤ dy ∧ dy ≤ 4194304) :
    Calls Try.prog 50 #[.func (.func 51) #[raV r] #[], gptr gp, gptr gx, gptr gy] w (PPost (ptAt p dx dy r) w) := by
  obtain ⟨p0, p1, -, -, hpl⟩ := hp.two
  have x0 := hx.cell 0
  have y0 := hy.cell 0
  have hxl := hx.lt
  have hyl := hy.lt
  simp only [List.getElem?_cons_zero] at x0 y0
  have RX := hid_ (fun w => round_any r dx w hr hdx.1 hdx.2)
  have RY := hid_ (fun w => round_any r dy w hr hdy.1 hdy.2)
  obtain ⟨bx1, bx2⟩ := rnd_bd hr hdx.1 hdx.2
  obtain ⟨by1, by2⟩ := rnd_bd hr hdy.1 hdy.2
  rw [ptAt]
  obtain ⟨X, hX⟩ : ∃ X, X = rnd (r.1 * dx) r.2 := ⟨_, rfl⟩
  obtain ⟨Y, hY⟩ : ∃ Y, Y = rnd (r.1 * dy) r.2 := ⟨_, rfl⟩
  rw [← hX] at RX bx1 bx2
  rw [← hY] at RY by1 by2
  rw [← hX, ← hY]
  obtain ⟨hp11, hp12⟩ := hp1
  obtain ⟨hp21, hp22⟩ := hp2
  have v1 : IntKind.i64.wrap (p.x + X) = p.x + X := IntWalk.i64_in _ (by omega)
  have v2 : IntKind.i64.wrap (p.y + Y) = p.y + Y := IntWalk.i64_in _ (by omega)
  clear hp hx hy hr hdx hdy hX hY
  go_enter Try.func50, Try.ntmps50
  go_wp2_with fail
  go_region_held3 (fun w' => w'.cell? ⟨gp, 0, none⟩ = some (.int .i64 p.x) ∧ w'.cell? ⟨gp, 1, none⟩ = some (.int .i64 p.y) ∧ w'.cell? ⟨gx, 0, none⟩ = some (.int .i64 dx) ∧ w'.cell? ⟨gy, 0, none⟩ = some (.int .i64 dy))
    (first
      | exact ⟨by simp [go_sem, *], by simp [go_sem, *], by simp [go_sem, *], by simp [go_sem, *]⟩
      | exact ⟨(HM1.out.cell (by first | (simp; omega) | omega) id).trans (by first | assumption | simp [go_sem, *]), (HM1.out.cell (by first | (simp; omega) | omega) id).trans (by first | assumption | simp [go_sem, *]), (HM1.out.cell (by first | (simp; omega) | omega) id).trans (by first | assumption | simp [go_sem, *]), (HM1.out.cell (by first | (simp; omega) | omega) id).trans (by first | assumption | simp [go_sem, *])⟩)
    (first
      | (go_at_call 51; ((with_reducible refine (RX.out _).mono ?_); rintro e w1 ⟨rfl, hm1⟩); have hs := hm1.size; (try simp at hs); have HB := hid_ (hm1.bk (by first | exact HB.out | exact Bk.drew (Bk.new _ _ _)) id : Bk w1 w.heap.size 24 [.int .i64 0, .int .i64 0]); obtain ⟨r0, r1, rf0, rf1, rlt⟩ := HB.out.two; have HMT := hid_ (Mod.trans (by first | exact HMT.out | exact ((Mod.refl Nothing w).alloc _).drew) hm1 (fun _ _ h => h) : Mod Nothing w w1); have HM1 := hid_ hm1; clear hm1)
      | (go_at_call 51; ((with_reducible refine (RY.out _).mono ?_); rintro e w1 ⟨rfl, hm1⟩); have hs := hm1.size; (try simp at hs); have HB := hid_ (hm1.bk (by first | exact HB.out | exact Bk.drew (Bk.new _ _ _)) id : Bk w1 w.heap.size 24 [.int .i64 0, .int .i64 0]); obtain ⟨r0, r1, rf0, rf1, rlt⟩ := HB.out.two; have HMT := hid_ (Mod.trans (by first | exact HMT.out | exact ((Mod.refl Nothing w).alloc _).drew) hm1 (fun _ _ h => h) : Mod Nothing w w1); have HM1 := hid_ hm1; clear hm1))
  all_goals
    go_wp2_with fail
    obtain ⟨e0, e1, -, -, -⟩ := ((HB.out.set 0 (.int .i64 (p.x + X))).set 1 (.int .i64 (p.y + Y))).two
    exact bodyPost_ret (v := ptV ⟨p.x + X, p.y + Y⟩) (by simp [results, Try.results50, go_sem, e0, e1]) rfl ⟨rfl, (HMT.out.setNew (p := ⟨w.heap.size, 0, none⟩) (Nat.le_refl _) _).setNew (p := ⟨w.heap.size, 1, none⟩) (Nat.le_refl _) _⟩

def PiecePost (r : Pt × Pt × Bool) (w : World) (e : Ending) (w' : World) : Prop := e = .returned (.tuple #[ptV r.1, ptV r.2.1, .bool r.2.2]) ∧ Mod Nothing w w'
/-- Near, as inequalities. -/
def PtNear (p : Pt) : Prop := (-2097152 ≤ p.x ∧ p.x ≤ 2097152) ∧ -2097152 ≤ p.y ∧ p.y ≤ 2097152

/-- Eight new blocks in a row. -/
theorem eight (w : World) (t0 t1 t2 t3 t4 t5 t6 t7 : TypeId) (c0 c1 c2 c3 c4 c5 c6 c7 : List Value) :
    let W := (((((((w.alloc (.cells c0.toArray t0)).alloc (.cells c1.toArray t1)).alloc (.cells c2.toArray t2)).alloc (.cells c3.toArray t3)).alloc (.cells c4.toArray t4)).alloc (.cells c5.toArray t5)).alloc (.cells c6.toArray t6)).alloc (.cells c7.toArray t7)
    Bk W w.heap.size t0 c0 ∧ Bk W (w.heap.size + 1) t1 c1 ∧ Bk W (w.heap.size + 1 + 1) t2 c2 ∧ Bk W (w.heap.size + 1 + 1 + 1) t3 c3 ∧ Bk W (w.heap.size + 1 + 1 + 1 + 1) t4 c4 ∧ Bk W (w.heap.size + 1 + 1 + 1 + 1 + 1) t5 c5 ∧ Bk W (w.heap.size + 1 + 1 + 1 + 1 + 1 + 1) t6 c6 ∧ Bk W (w.heap.size + 1 + 1 + 1 + 1 + 1 + 1 + 1) t7 c7 ∧ W.heap.size = w.heap.size + 8 ∧ Mod Nothing w W := by
  intro W
  have b : ∀ (u : World) (n : Nat) t c, u.heap.size = n → Bk (u.alloc (.cells c.toArray t)) n t c := fun u n t c h => by subst h; exact Bk.new u t c
  refine ⟨?_, ?_, ?_, ?_, ?_, ?_, ?_, ?_, ?_, ?_⟩
  · exact (((((((b w _ t0 c0 rfl).alloc _).alloc _).alloc _).alloc _).alloc _).alloc _).alloc _
  · exact ((((((b _ _ t1 c1 (by simp)).alloc _).alloc _).alloc _).alloc _).alloc _).alloc _
  · exact (((((b _ _ t2 c2 (by simp)).alloc _).alloc _).alloc _).alloc _).alloc _
  · exact ((((b _ _ t3 c3 (by simp)).alloc _).alloc _).alloc _).alloc _
  · exact (((b _ _ t4 c4 (by simp)).alloc _).alloc _).alloc _
  · exact ((b _ _ t5 c5 (by simp)).alloc _).alloc _
  · exact (b _ _ t6 c6 (by simp)).alloc _
  · exact b _ _ t7 c7 (by simp)
  · simp [W]
  · exact (((((((Mod.refl _ _).alloc _).alloc _).alloc _).alloc _).alloc _).alloc _).alloc _ |>.alloc _

/-- piece's variables in memory, from block n on. -/
structure PieceAt (w wc : World) (n gx gy : Nat) (p q : Pt) (b : Bx) (s : Ra × Ra × Bool) (u v : Pt) : Prop where
  bp : Bk wc n 24 [.int .i64 p.x, .int .i64 p.y]
  bq : Bk wc (n + 1) 24 [.int .i64 q.x, .int .i64 q.y]
  bb : Bk wc (n + 1 + 1) 26 [.int .i64 b.lo.x, .int .i64 b.lo.y, .int .i64 b.hi.x, .int .i64 b.hi.y]
  r1 : Bk wc (n + 1 + 1 + 1) 24 [.int .i64 u.x, .int .i64 u.y]
  r2 : Bk wc (n + 1 + 1 + 1 + 1) 24 [.int .i64 v.x, .int .i64 v.y]
  cap : Cap wc (n + 1 + 1 + 1 + 1 + 1 + 1 + 1) (n + 1 + 1 + 1 + 1 + 1) (n + 1 + 1 + 1 + 1 + 1 + 1) s
  dx : Bk wc gx 3 [.int .i64 (q.x - p.x)]
  dy : Bk wc gy 3 [.int .i64 (q.y - p.y)]
  old : Mod Nothing w wc
  base : n = w.heap.size
theorem PieceAt.step {w w1 w2 : World} {n gx gy : Nat} {p q : Pt} {b : Bx} {s s' : Ra × Ra × Bool} {u v : Pt} (h : PieceAt w w1 n gx gy p q b s u v)
    (hc : Cap w2 (n + 1 + 1 + 1 + 1 + 1 + 1 + 1) (n + 1 + 1 + 1 + 1 + 1) (n + 1 + 1 + 1 + 1 + 1 + 1) s') (hm : Mod (In3 (n + 1 + 1 + 1 + 1 + 1 + 1 + 1) (n + 1 + 1 + 1 + 1 + 1) (n + 1 + 1 + 1 + 1 + 1 + 1)) w1 w2) : PieceAt w w2 n gx gy p q b s' u v := by
  have nx : ¬ In3 (n + 1 + 1 + 1 + 1 + 1 + 1 + 1) (n + 1 + 1 + 1 + 1 + 1) (n + 1 + 1 + 1 + 1 + 1 + 1) gx := by
    rintro (e | e | e)
    · exact h.dx.ne h.cap.ok (by decide) e
    · exact h.dx.ne h.cap.low (by decide) e
    · exact h.dx.ne h.cap.high (by decide) e
  have ny : ¬ In3 (n + 1 + 1 + 1 + 1 + 1 + 1 + 1) (n + 1 + 1 + 1 + 1 + 1) (n + 1 + 1 + 1 + 1 + 1 + 1) gy := by
    rintro (e | e | e)
    · exact h.dy.ne h.cap.ok (by decide) e
    · exact h.dy.ne h.cap.low (by decide) e
    · exact h.dy.ne h.cap.high (by decide) e
  refine ⟨hm.bk h.bp ?_, hm.bk h.bq ?_, hm.bk h.bb ?_, hm.bk h.r1 ?_, hm.bk h.r2 ?_, hc, hm.bk h.dx nx, hm.bk h.dy ny, h.old.trans hm ?_, h.base⟩
  all_goals first | (unfold In3; omega) | skip
  intro i hi hk
  have := h.base
  unfold In3 at hk
  omega
theorem PieceAt.mod {w w1 w2 : World} {n gx gy : Nat} {p q : Pt} {b : Bx} {s : Ra × Ra × Bool} {u v : Pt} (h : PieceAt w w1 n gx gy p q b s u v) (hm : Mod Nothing w1 w2) : PieceAt w w2 n gx gy p q b s u v :=
  ⟨hm.bk h.bp id, hm.bk h.bq id, hm.bk h.bb id, hm.bk h.r1 id, hm.bk h.r2 id, h.cap.mod hm id id id, hm.bk h.dx id, hm.bk h.dy id, h.old.trans hm (fun _ _ h => h), h.base⟩

theorem PieceAt.five {w w' : World} {n gx gy : Nat} {p q : Pt} {b : Bx} {l1 l2 t1 t2 : Int} {k : Bool} {u v : Pt} (h : PieceAt w w' n gx gy p q b ((l1, l2), (t1, t2), k) u v) :
    w'.cell? ⟨n + 1 + 1 + 1 + 1 + 1, 0, none⟩ = some (.int .i64 l1) ∧ w'.cell? ⟨n + 1 + 1 + 1 + 1 + 1, 1, none⟩ = some (.int .i64 l2) ∧ w'.cell? ⟨n + 1 + 1 + 1 + 1 + 1 + 1, 0, none⟩ = some (.int .i64 t1) ∧ w'.cell? ⟨n + 1 + 1 + 1 + 1 + 1 + 1, 1, none⟩ = some (.int .i64 t2) ∧ w'.cell? ⟨n + 1 + 1 + 1 + 1 + 1 + 1 + 1, 0, none⟩ = some (.bool k) :=
  ⟨h.cap.low.cell 0, h.cap.low.cell 1, h.cap.high.cell 0, h.cap.high.cell 1, h.cap.ok.cell 0⟩
theorem PieceAt.sizes {w w' : World} {n gx gy : Nat} {p q : Pt} {b : Bx} {s : Ra × Ra × Bool} {u v : Pt} (h : PieceAt w w' n gx gy p q b s u v) :
    n < w'.heap.size ∧ n + 1 + 1 + 1 < w'.heap.size ∧ n + 1 + 1 + 1 + 1 < w'.heap.size ∧ n + 1 + 1 + 1 + 1 + 1 < w'.heap.size ∧ n + 1 + 1 + 1 + 1 + 1 + 1 < w'.heap.size ∧ n + 1 + 1 + 1 + 1 + 1 + 1 + 1 < w'.heap.size ∧ True :=
  ⟨h.bp.lt, h.r1.lt, h.r2.lt, h.cap.low.lt, h.cap.high.lt, h.cap.ok.lt, trivial⟩

/-- While piece's last statement runs: its two results are stored when their stores have come up. -/
structure RegC (w : World) (n gx gy : Nat) (p q : Pt) (b : Bx) (s : Ra × Ra × Bool) (u v : Pt) (L : Array Bool) (w' : World) : Prop where
  at_ : PieceAt w w' n gx gy p q b s (if L.getD 15 false then u else ⟨0, 0⟩) (if L.getD 16 false then v else ⟨0, 0⟩)
theorem RegC.skip {w : World} {n gx gy : Nat} {p q : Pt} {b : Bx} {s : Ra × Ra × Bool} {u v : Pt} {L : Array Bool} {w1 w2 : World} (h : RegC w n gx gy p q b s u v L w1) (hm : Mod Nothing w1 w2) (i : Nat) (h1 : i ≠ 15) (h2 : i ≠ 16) : RegC w n gx gy p q b s u v (L.setIfInBounds i true) w2 := by
  refine ⟨?_⟩
  rw [getD_set_ne false h1, getD_set_ne false h2]
  exact h.at_.mod hm

theorem getD_put {L : Array Bool} {i : Nat} (h : L.getD i true = false) : (L.setIfInBounds i true).getD i false = true := by
  have hlt : i < L.size := by
    rcases Nat.lt_or_ge i L.size with h' | h'
    · exact h'
    · rw [Array.getD_eq_getD_getElem?, Array.getElem?_eq_none h'] at h; cases h
  rw [Array.getD_eq_getD_getElem?, Array.getElem?_setIfInBounds, if_pos rfl, if_pos hlt]; rfl
theorem PieceAt.set1 {w : World} {n gx gy : Nat} {p q : Pt} {b : Bx} {s : Ra × Ra × Bool} {u v : Pt} {w1 : World} (h : PieceAt w w1 n gx gy p q b s u v) (z : Pt) :
    PieceAt w ((w1.setCell ⟨n + 1 + 1 + 1, 0, none⟩ (.int .i64 z.x)).setCell ⟨n + 1 + 1 + 1, 1, none⟩ (.int .i64 z.y)) n gx gy p q b s z v := by
  have nx : gx ≠ n + 1 + 1 + 1 := h.dx.ne h.r1 (by decide)
  have ny : gy ≠ n + 1 + 1 + 1 := h.dy.ne h.r1 (by decide)
  have two : ∀ {g t cs}, Bk w1 g t cs → g ≠ n + 1 + 1 + 1 → Bk ((w1.setCell ⟨n + 1 + 1 + 1, 0, none⟩ (.int .i64 z.x)).setCell ⟨n + 1 + 1 + 1, 1, none⟩ (.int .i64 z.y)) g t cs := fun hb hne => (hb.far hne _).far hne _
  refine ⟨two h.bp (by omega), two h.bq (by omega), two h.bb (by omega), (h.r1.set 0 _).set 1 _, two h.r2 (by omega), ⟨two h.cap.ok (by omega), two h.cap.low (by omega), two h.cap.high (by omega), h.cap.ne⟩, two h.dx nx, two h.dy ny, ?_, h.base⟩
  exact (h.old.setNew (p := ⟨n + 1 + 1 + 1, 0, none⟩) (by have := h.base; show w.heap.size ≤ n + 1 + 1 + 1; omega) _).setNew (p := ⟨n + 1 + 1 + 1, 1, none⟩) (by have := h.base; show w.heap.size ≤ n + 1 + 1 + 1; omega) _
theorem PieceAt.set2 {w : World} {n gx gy : Nat} {p q : Pt} {b : Bx} {s : Ra × Ra × Bool} {u v : Pt} {w1 : World} (h : PieceAt w w1 n gx gy p q b s u v) (z : Pt) :
    PieceAt w ((w1.setCell ⟨n + 1 + 1 + 1 + 1, 0, none⟩ (.int .i64 z.x)).setCell ⟨n + 1 + 1 + 1 + 1, 1, none⟩ (.int .i64 z.y)) n gx gy p q b s u z := by
  have nx : gx ≠ n + 1 + 1 + 1 + 1 := h.dx.ne h.r2 (by decide)
  have ny : gy ≠ n + 1 + 1 + 1 + 1 := h.dy.ne h.r2 (by decide)
  have two : ∀ {g t cs}, Bk w1 g t cs → g ≠ n + 1 + 1 + 1 + 1 → Bk ((w1.setCell ⟨n + 1 + 1 + 1 + 1, 0, none⟩ (.int .i64 z.x)).setCell ⟨n + 1 + 1 + 1 + 1, 1, none⟩ (.int .i64 z.y)) g t cs := fun hb hne => (hb.far hne _).far hne _
  refine ⟨two h.bp (by omega), two h.bq (by omega), two h.bb (by omega), two h.r1 (by omega), (h.r2.set 0 _).set 1 _, ⟨two h.cap.ok (by omega), two h.cap.low (by omega), two h.cap.high (by omega), h.cap.ne⟩, two h.dx nx, two h.dy ny, ?_, h.base⟩
  exact (h.old.setNew (p := ⟨n + 1 + 1 + 1 + 1, 0, none⟩) (by have := h.base; show w.heap.size ≤ n + 1 + 1 + 1 + 1; omega) _).setNew (p := ⟨n + 1 + 1 + 1 + 1, 1, none⟩) (by have := h.base; show w.heap.size ≤ n + 1 + 1 + 1 + 1; omega) _
theorem RegC.put1 {w : World} {n gx gy : Nat} {p q : Pt} {b : Bx} {s : Ra × Ra × Bool} {u v : Pt} {L : Array Bool} {w1 : World} (h : RegC w n gx gy p q b s u v L w1) (hu : L.getD 15 true = false) :
    RegC w n gx gy p q b s u v (L.setIfInBounds 15 true) ((w1.setCell ⟨n + 1 + 1 + 1, 0, none⟩ (.int .i64 u.x)).setCell ⟨n + 1 + 1 + 1, 1, none⟩ (.int .i64 u.y)) := by
  refine ⟨?_⟩
  rw [if_pos (getD_put hu), getD_set_ne false (by decide)]
  exact h.at_.set1 u
theorem RegC.put2 {w : World} {n gx gy : Nat} {p q : Pt} {b : Bx} {s : Ra × Ra × Bool} {u v : Pt} {L : Array Bool} {w1 : World} (h : RegC w n gx gy p q b s u v L w1) (hu : L.getD 16 true = false) :
    RegC w n gx gy p q b s u v (L.setIfInBounds 16 true) ((w1.setCell ⟨n + 1 + 1 + 1 + 1, 0, none⟩ (.int .i64 v.x)).setCell ⟨n + 1 + 1 + 1 + 1, 1, none⟩ (.int .i64 v.y)) := by
  refine ⟨?_⟩
  rw [if_pos (getD_put hu), getD_set_ne false (by decide)]
  exact h.at_.set2 v

set_option maxRecDepth 100000 in
set_option maxHeartbeats 8000000 in
theorem piece_any {w : World} (p q : Pt) (b : Bx) (hp : PtNear p) (hq : PtNear q) (hb0 : PtNear b.lo) (hb1 : PtNear b.hi) :
    Calls Try.prog 29 #[ptV p, ptV q, bxV b] w (PiecePost (pieceF p q b) w) := by
  obtain ⟨⟨px1, px2⟩, py1, py2⟩ := hp
  obtain ⟨⟨qx1, qx2⟩, qy1, qy2⟩ := hq
  have v1 : IntKind.i64.wrap (q.x - p.x) = q.x - p.x := IntWalk.i64_in _ (by omega)
  have v2 : IntKind.i64.wrap (q.y - p.y) = q.y - p.y := IntWalk.i64_in _ (by omega)
  go_enter Try.func29, Try.ntmps29
  go_wp2_with fail
  obtain ⟨b0, b1, b2, b3, b4, b5, b6, b7, hsz, hmod⟩ := eight w 24 24 26 24 24 60 60 4 [.int .i64 p.x, .int .i64 p.y] [.int .i64 q.x, .int .i64 q.y] [.int .i64 b.lo.x, .int .i64 b.lo.y, .int .i64 b.hi.x, .int .i64 b.hi.y] [.int .i64 0, .int .i64 0] [.int .i64 0, .int .i64 0] [.int .i64 0, .int .i64 1] [.int .i64 1, .int .i64 1] [.bool true]
  obtain ⟨W, hW⟩ : ∃ W, W = ((((((((w.alloc (.cells #[.int .i64 p.x, .int .i64 p.y] 24)).alloc (.cells #[.int .i64 q.x, .int .i64 q.y] 24)).alloc (.cells #[.int .i64 b.lo.x, .int .i64 b.lo.y, .int .i64 b.hi.x, .int .i64 b.hi.y] 26)).alloc (.cells #[.int .i64 0, .int .i64 0] 24)).alloc (.cells #[.int .i64 0, .int .i64 0] 24)).alloc (.cells #[.int .i64 0, .int .i64 1] 60)).alloc (.cells #[.int .i64 1, .int .i64 1] 60)).alloc (.cells #[.bool true] 4)) := ⟨_, rfl⟩
  rw [← hW]
  rw [← hW] at b0 b1 b2 b3 b4 b5 b6 b7 hsz hmod
  clear hW
  obtain ⟨n, hn⟩ : ∃ n, n = w.heap.size := ⟨_, rfl⟩
  have HN := hid_ hn
  simp only [← hn]
  rw [← hn] at b0 b1 b2 b3 b4 b5 b6 b7 hsz
  clear hn
  have hsl : n + 8 ≤ W.heap.size := by omega
  have H0 := hid_ b0
  have H1 := hid_ b1
  have H2 := hid_ b2
  have H3 := hid_ b3
  have H4 := hid_ b4
  have HC := hid_ (show Cap W (n + 1 + 1 + 1 + 1 + 1 + 1 + 1) (n + 1 + 1 + 1 + 1 + 1) (n + 1 + 1 + 1 + 1 + 1 + 1) ((0, 1), (1, 1), true) from ⟨b7, b5, b6, by omega⟩)
  have HM := hid_ hmod
  obtain ⟨p0, p1, -, -, hl0⟩ := b0.two
  obtain ⟨q0, q1, -, -, hl1⟩ := b1.two
  clear b0 b1 b2 b3 b4 b5 b6 b7 hsz hmod
  go_cut [13, 14] (fun x y wc => ∃ gx gy, x = gptr gx ∧ y = gptr gy ∧ PieceAt w wc n gx gy p q b ((0, 1), (1, 1), true) ⟨0, 0⟩ ⟨0, 0⟩)
  case first =>
    go_region
    all_goals go_wp2
    all_goals go_meet
    all_goals
      refine ⟨_, _, rfl, rfl, ?_⟩
      have k : ∀ {g t cs} o1 o2, Bk W g t cs → Bk ((W.alloc o1).alloc o2).drew g t cs := fun o1 o2 h => ((h.alloc _).alloc _).drew
      have hm : ∀ o1 o2, Mod Nothing W ((W.alloc o1).alloc o2).drew := fun o1 o2 => (((Mod.refl _ _).alloc _).alloc _).drew
      have n1 : ∀ t cs o2, Bk ((W.alloc (.cells cs t)).alloc o2).drew W.heap.size t cs.toList := fun t cs o2 => ((by have h := Bk.new W t cs.toList; simpa using h : Bk (W.alloc (.cells cs t)) W.heap.size t cs.toList).alloc _).drew
      have n2 : ∀ t cs o1, Bk ((W.alloc o1).alloc (.cells cs t)).drew (W.heap.size + 1) t cs.toList := fun t cs o1 => (by have h := Bk.new (W.alloc o1) t cs.toList; simpa using h : Bk ((W.alloc o1).alloc (.cells cs t)) (W.heap.size + 1) t cs.toList).drew
      refine ⟨k _ _ H0.out, k _ _ H1.out, k _ _ H2.out, k _ _ H3.out, k _ _ H4.out, HC.out.mod (hm _ _) id id id, ?_, ?_, HM.out.trans (hm _ _) (fun _ _ h => h), HN.out⟩
      · first | exact n1 _ #[_] _ | exact n2 _ #[_] _
      · first | exact n1 _ #[_] _ | exact n2 _ #[_] _
  case rest =>
    obtain ⟨gx, gy, rfl, rfl, hp⟩ := hcut
    have HP := hid_ hp
    clear hp p0 p1 q0 q1 hl0 hl1 hsl
    obtain ⟨p0, p1, -, -, hl0⟩ := HP.out.bp.two
    obtain ⟨b0, b1, b2, b3, -, -, -, -, hl2⟩ := HP.out.bb.four
    have d0 := HP.out.dx.cell 0
    have hl3 := HP.out.dx.lt
    simp only [List.getElem?_cons_zero] at d0
    go_wp2_with fail
    refine (bnd_any HP.out.cap p.x (q.x - p.x) b.lo.x b.hi.x ⟨by decide, by decide, by decide, by decide⟩ ⟨by decide, by decide, by decide, by decide⟩ ⟨px1, px2⟩ ⟨by omega, by omega⟩ hb0.1 hb1.1).mono ?_
    obtain ⟨o1, o2⟩ := bndF_ok (s := ((0, 1), (1, 1), true)) (f := p.x) (d := q.x - p.x) (l := b.lo.x) (m := b.hi.x) ⟨by decide, by decide, by decide, by decide⟩ ⟨by decide, by decide, by decide, by decide⟩ ⟨px1, px2⟩ ⟨by omega, by omega⟩ hb0.1 hb1.1
    obtain ⟨s1, hs1⟩ : ∃ s1, s1 = bndF ((0, 1), (1, 1), true) p.x (q.x - p.x) b.lo.x b.hi.x := ⟨_, rfl⟩
    rw [← hs1] at o1 o2 ⊢
    rintro e w1 ⟨rfl, hc1, hm1⟩
    have HP1 := hid_ (HP.out.step hc1 hm1)
    clear hc1 hm1 p0 p1 hl0 b0 b1 b2 b3 hl2 d0 hl3
    obtain ⟨p0, p1, -, -, hl0⟩ := HP1.out.bp.two
    obtain ⟨b0, b1, b2, b3, -, -, -, -, hl2⟩ := HP1.out.bb.four
    have d0 := HP1.out.dy.cell 0
    have hl3 := HP1.out.dy.lt
    simp only [List.getElem?_cons_zero] at d0
    have HS1 := hid_ hs1
    clear hs1
    go_wp2_with fail
    refine (bnd_any HP1.out.cap p.y (q.y - p.y) b.lo.y b.hi.y o1 o2 ⟨py1, py2⟩ ⟨by omega, by omega⟩ hb0.2 hb1.2).mono ?_
    obtain ⟨o3, o4⟩ := bndF_ok (s := s1) (f := p.y) (d := q.y - p.y) (l := b.lo.y) (m := b.hi.y) o1 o2 ⟨py1, py2⟩ ⟨by omega, by omega⟩ hb0.2 hb1.2
    obtain ⟨s2, hs2⟩ : ∃ s2, s2 = bndF s1 p.y (q.y - p.y) b.lo.y b.hi.y := ⟨_, rfl⟩
    rw [← hs2] at o3 o4 ⊢
    have e2 : bnds p q b = s2 := by rw [hs2, HS1.out]; rfl
    have er : pieceF p q b = (ptAt p (q.x - p.x) (q.y - p.y) s2.1, ptAt p (q.x - p.x) (q.y - p.y) s2.2.1, s2.2.2 && !(Ra.less s2.2.1 s2.1)) := by rw [pieceF, e2]
    obtain ⟨R, hR⟩ : ∃ R, R = pieceF p q b := ⟨_, rfl⟩
    rw [← hR]
    rw [← hR] at er
    have HR := hid_ er
    have HRP := hid_ hR
    obtain ⟨⟨L1, L2⟩, ⟨T1, T2⟩, okv⟩ := s2
    rintro e w2 ⟨rfl, hc2, hm2⟩
    have HP2 := hid_ (HP1.out.step hc2 hm2)
    clear hc2 hm2 p0 p1 hl0 b0 b1 b2 b3 hl2 d0 hl3 e2 er hR hs2
    have CL := hid_ (fun (w' : World) (u v : Pt) (h : PieceAt w w' n gx gy p q b ((L1, L2), (T1, T2), okv) u v) => at_any p (q.x - p.x) (q.y - p.y) (L1, L2) h.bp h.dx h.dy o3 ⟨px1, px2⟩ ⟨py1, py2⟩ ⟨by omega, by omega⟩ ⟨by omega, by omega⟩)
    have CT := hid_ (fun (w' : World) (u v : Pt) (h : PieceAt w w' n gx gy p q b ((L1, L2), (T1, T2), okv) u v) => at_any p (q.x - p.x) (q.y - p.y) (T1, T2) h.bp h.dx h.dy o4 ⟨px1, px2⟩ ⟨py1, py2⟩ ⟨by omega, by omega⟩ ⟨by omega, by omega⟩)
    have CS := hid_ (fun w' => less_any (T1, T2) (L1, L2) w' o4 o3)
    simp only at HR
    obtain ⟨PL, hPL⟩ : ∃ PL, PL = ptAt p (q.x - p.x) (q.y - p.y) (L1, L2) := ⟨_, rfl⟩
    obtain ⟨PT, hPT⟩ : ∃ PT, PT = ptAt p (q.x - p.x) (q.y - p.y) (T1, T2) := ⟨_, rfl⟩
    obtain ⟨lb, hlb⟩ : ∃ lb, lb = Ra.less (T1, T2) (L1, L2) := ⟨_, rfl⟩
    rw [← hPL] at CL HR
    rw [← hPT] at CT HR
    rw [← hlb] at CS HR
    clear hPL hPT hlb o1 o2 o3 o4 HS1 HP1 HP H0 H1 H2 H3 H4 HC HM HN
    go_wp2_with fail
    refine wp_region_steps [.func (.func 50) #[] #[gptr n, gptr gx, gptr gy], raV (L1, L2), .func (.func 51) #[raV (L1, L2)] #[], ptV PL, .func (.func 50) #[] #[gptr n, gptr gx, gptr gy], raV (T1, T2), .func (.func 51) #[raV (T1, T2)] #[], ptV PT,
      .bool okv, .bool okv, if okv then raV (T1, T2) else undef, if okv then raV (L1, L2) else undef, if okv then .bool lb else undef, if okv then .bool (!lb) else undef, .bool (okv && !lb), undef, undef, .bool (okv && !lb)]
      (RegC w n gx gy p q b ((L1, L2), (T1, T2), okv) PL PT) (by kernel_rfl) (by kernel_rfl) (by simp only [putAll, Act.put, List.setIfInBounds_toArray, List.set_cons_zero, List.set_cons_succ]; rfl) ?_ ?_ ?_
    · exact ⟨HP2.out.mod ((Mod.refl _ _).drew)⟩
    · refine ⟨?_, ?_, ?_, ?_, ?_, ?_, ?_, ?_, ?_, ?_, ?_, ?_, ?_, ?_, ?_, ?_, ?_, ?_, trivial⟩
      · intro L w' hun hw hC
        refine step_yes rfl ?_
        have HC := hid_ hC

        clear hun hw hC
        go_simp
        first | exact HC.out.skip (Mod.refl _ _) 0 (by decide) (by decide) | exact ⟨rfl, HC.out.skip (Mod.refl _ _) 0 (by decide) (by decide)⟩
      · intro L w' hun hw hC
        refine step_yes rfl ?_
        have HC := hid_ hC
        obtain ⟨l0, l1, t0, t1, k0⟩ := hC.at_.five
        clear hun hw hC
        go_simp
        first | exact HC.out.skip (Mod.refl _ _) 1 (by decide) (by decide) | exact ⟨rfl, HC.out.skip (Mod.refl _ _) 1 (by decide) (by decide)⟩
      · intro L w' hun hw hC
        refine step_yes rfl ?_
        have HC := hid_ hC

        clear hun hw hC
        go_simp
        first | exact HC.out.skip (Mod.refl _ _) 2 (by decide) (by decide) | exact ⟨rfl, HC.out.skip (Mod.refl _ _) 2 (by decide) (by decide)⟩
      · intro L w' hun hw hC
        refine step_yes rfl ?_
        have HC := hid_ hC
        clear hun hw hC
        go_simp
        refine (CL.out _ _ _ HC.out.at_).mono ?_
        rintro e w3 ⟨rfl, hm⟩
        exact ⟨rfl, HC.out.skip hm 3 (by decide) (by decide)⟩
      · intro L w' hun hw hC
        refine step_yes rfl ?_
        have HC := hid_ hC

        clear hun hw hC
        go_simp
        first | exact HC.out.skip (Mod.refl _ _) 4 (by decide) (by decide) | exact ⟨rfl, HC.out.skip (Mod.refl _ _) 4 (by decide) (by decide)⟩
      · intro L w' hun hw hC
        refine step_yes rfl ?_
        have HC := hid_ hC
        obtain ⟨l0, l1, t0, t1, k0⟩ := hC.at_.five
        clear hun hw hC
        go_simp
        first | exact HC.out.skip (Mod.refl _ _) 5 (by decide) (by decide) | exact ⟨rfl, HC.out.skip (Mod.refl _ _) 5 (by decide) (by decide)⟩
      · intro L w' hun hw hC
        refine step_yes rfl ?_
        have HC := hid_ hC

        clear hun hw hC
        go_simp
        first | exact HC.out.skip (Mod.refl _ _) 6 (by decide) (by decide) | exact ⟨rfl, HC.out.skip (Mod.refl _ _) 6 (by decide) (by decide)⟩
      · intro L w' hun hw hC
        refine step_yes rfl ?_
        have HC := hid_ hC
        clear hun hw hC
        go_simp
        refine (CT.out _ _ _ HC.out.at_).mono ?_
        rintro e w3 ⟨rfl, hm⟩
        exact ⟨rfl, HC.out.skip hm 7 (by decide) (by decide)⟩
      · intro L w' hun hw hC
        refine step_yes rfl ?_
        have HC := hid_ hC
        obtain ⟨l0, l1, t0, t1, k0⟩ := hC.at_.five
        clear hun hw hC
        go_simp
        first | exact HC.out.skip (Mod.refl _ _) 8 (by decide) (by decide) | exact ⟨rfl, HC.out.skip (Mod.refl _ _) 8 (by decide) (by decide)⟩
      · intro L w' hun hw hC
        refine step_yes rfl ?_
        have HC := hid_ hC

        clear hun hw hC
        go_simp
        first | exact HC.out.skip (Mod.refl _ _) 9 (by decide) (by decide) | exact ⟨rfl, HC.out.skip (Mod.refl _ _) 9 (by decide) (by decide)⟩
      · intro L w' hun hw hC
        have HC := hid_ hC
        obtain ⟨l0, l1, t0, t1, k0⟩ := hC.at_.five
        clear hun hw hC
        cases okv
        · exact step_no rfl ⟨rfl, HC.out.skip (Mod.refl _ _) 10 (by decide) (by decide)⟩
        · refine step_yes rfl ?_
          go_simp
          first | exact HC.out.skip (Mod.refl _ _) 10 (by decide) (by decide) | exact ⟨rfl, HC.out.skip (Mod.refl _ _) 10 (by decide) (by decide)⟩
      · intro L w' hun hw hC
        have HC := hid_ hC
        obtain ⟨l0, l1, t0, t1, k0⟩ := hC.at_.five
        clear hun hw hC
        cases okv
        · exact step_no rfl ⟨rfl, HC.out.skip (Mod.refl _ _) 11 (by decide) (by decide)⟩
        · refine step_yes rfl ?_
          go_simp
          first | exact HC.out.skip (Mod.refl _ _) 11 (by decide) (by decide) | exact ⟨rfl, HC.out.skip (Mod.refl _ _) 11 (by decide) (by decide)⟩
      · intro L w' hun hw hC
        have HC := hid_ hC
        obtain ⟨l0, l1, t0, t1, k0⟩ := hC.at_.five
        clear hun hw hC
        cases okv
        · exact step_no rfl ⟨rfl, HC.out.skip (Mod.refl _ _) 12 (by decide) (by decide)⟩
        · refine step_yes rfl ?_
          go_simp
          refine (CS.out _).mono ?_
          rintro e w3 ⟨rfl, hm⟩
          exact ⟨rfl, HC.out.skip hm 12 (by decide) (by decide)⟩
      · intro L w' hun hw hC
        have HC := hid_ hC
        obtain ⟨l0, l1, t0, t1, k0⟩ := hC.at_.five
        clear hun hw hC
        cases okv
        · exact step_no rfl ⟨rfl, HC.out.skip (Mod.refl _ _) 13 (by decide) (by decide)⟩
        · refine step_yes rfl ?_
          go_simp
          first | exact HC.out.skip (Mod.refl _ _) 13 (by decide) (by decide) | exact ⟨rfl, HC.out.skip (Mod.refl _ _) 13 (by decide) (by decide)⟩
      · intro L w' hun hw hC
        refine step_yes rfl ?_
        have HC := hid_ hC
        clear hun hw hC
        cases okv
        · go_simp
          first | exact HC.out.skip (Mod.refl _ _) 14 (by decide) (by decide) | exact ⟨rfl, HC.out.skip (Mod.refl _ _) 14 (by decide) (by decide)⟩
        · go_simp
          first | exact HC.out.skip (Mod.refl _ _) 14 (by decide) (by decide) | exact ⟨rfl, HC.out.skip (Mod.refl _ _) 14 (by decide) (by decide)⟩
      · intro L w' hun hw hC
        refine step_yes rfl ?_
        have HC := hid_ hC
        have HU := hid_ hun
        obtain ⟨r0, r1, f0, f1, hlt⟩ := hC.at_.r1.two
        clear hun hw hC
        go_simp
        first | exact HC.out.put1 HU.out | exact ⟨rfl, HC.out.put1 HU.out⟩
      · intro L w' hun hw hC
        refine step_yes rfl ?_
        have HC := hid_ hC
        have HU := hid_ hun
        obtain ⟨r0, r1, f0, f1, hlt⟩ := hC.at_.r2.two
        clear hun hw hC
        go_simp
        first | exact HC.out.put2 HU.out | exact ⟨rfl, HC.out.put2 HU.out⟩
      · intro L w' hun hw hC
        refine step_yes rfl ?_
        have HC := hid_ hC

        clear hun hw hC
        go_simp
        first | exact HC.out.skip (Mod.refl _ _) 17 (by decide) (by decide) | exact ⟨rfl, HC.out.skip (Mod.refl _ _) 17 (by decide) (by decide)⟩
    · intro L w' hall hC
      have e15 := hall 15 (by decide)
      have e16 := hall 16 (by decide)
      have hp := hC.at_
      rw [if_pos e15, if_pos e16] at hp
      obtain ⟨r0, r1, -, -, -⟩ := hp.r1.two
      obtain ⟨s0, s1, -, -, -⟩ := hp.r2.two
      have HM := hid_ hp.old
      clear hp hC hall e15 e16
      cases okv
      · go_wp2_with fail
        exact bodyPost_ret (v := .tuple #[ptV PL, ptV PT, .bool false]) (by simp [results, Try.results29, go_sem, r0, r1, s0, s1]) rfl ⟨by rw [← HRP.out, HR.out]; rfl, HM.out⟩
      · go_wp2_with fail
        exact bodyPost_ret (v := .tuple #[ptV PL, ptV PT, .bool (!lb)]) (by simp [results, Try.results29, go_sem, r0, r1, s0, s1]) rfl ⟨by rw [← HRP.out, HR.out]; rfl, HM.out⟩
end Go.Proofs.Ytadiajlegajclaa
