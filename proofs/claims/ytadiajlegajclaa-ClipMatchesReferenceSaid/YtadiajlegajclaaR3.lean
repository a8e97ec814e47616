/- The reference: Piece. -/
import Derived.Test.YtadiajlegajclaaR2
set_option linter.unusedVariables false
set_option linter.unusedSimpArgs false
namespace Go.Proofs.Ytadiajlegajclaa
open Go.RowKit

/-- What the reference's Piece returns. -/
def rPiece (p q : Pt) (b : Bx) : Pt × Pt × Bool :=
  let s := rBound p.x (q.x - p.x) b.lo.x b.hi.x (0, 1) (1, 1)
  if s.2.2 then
    let t := rBound p.y (q.y - p.y) b.lo.y b.hi.y s.1 s.2.1
    (ptAt p (q.x - p.x) (q.y - p.y) t.1, ptAt p (q.x - p.x) (q.y - p.y) t.2.1, t.2.2)
  else (p, q, false)
theorem rBound_ok {p d least most : Int} {low high : Ra} (hp : -2097152 ≤ p ∧ p ≤ 2097152) (hd : -4194304 ≤ d ∧ d ≤ 4194304) (hl : -2097152 ≤ least ∧ least ≤ 2097152) (hm : -2097152 ≤ most ∧ most ≤ 2097152) (h1 : RaOk low) (h2 : RaOk high) :
    RaOk (rBound p d least most low high).1 ∧ RaOk (rBound p d least most low high).2.1 := by
  unfold rBound
  split
  · exact ⟨h1, h2⟩
  · rename_i h0
    have hf : RaOk (rFrom p d least most) := by
      unfold rFrom
      split
      · exact ⟨by show 0 < -d; omega, by show -d ≤ _; omega, by show _ ≤ p - most; omega, by show p - most ≤ _; omega⟩
      · exact ⟨by show 0 < d; omega, by show d ≤ _; omega, by show _ ≤ least - p; omega, by show least - p ≤ _; omega⟩
    have ht : RaOk (rTo p d least most) := by
      unfold rTo
      split
      · exact ⟨by show 0 < -d; omega, by show -d ≤ _; omega, by show _ ≤ p - least; omega, by show p - least ≤ _; omega⟩
      · exact ⟨by show 0 < d; omega, by show d ≤ _; omega, by show _ ≤ most - p; omega, by show most - p ≤ _; omega⟩
    dsimp only
    constructor
    · split <;> assumption
    · split <;> assumption
def RPost (r : Pt × Pt × Bool) (w : World) (e : Ending) (w' : World) : Prop := e = .returned (.tuple #[ptV r.1, ptV r.2.1, .bool r.2.2]) ∧ Mod Nothing w w'

theorem five_ (w : World) (t0 t1 t2 t3 t4 : TypeId) (c0 c1 c2 c3 c4 : List Value) :
    let W := ((((w.alloc (.cells c0.toArray t0)).alloc (.cells c1.toArray t1)).alloc (.cells c2.toArray t2)).alloc (.cells c3.toArray t3)).alloc (.cells c4.toArray t4)
    Bk W w.heap.size t0 c0 ∧ Bk W (w.heap.size + 1) t1 c1 ∧ Bk W (w.heap.size + 1 + 1) t2 c2 ∧ Bk W (w.heap.size + 1 + 1 + 1) t3 c3 ∧ Bk W (w.heap.size + 1 + 1 + 1 + 1) t4 c4 ∧ W.heap.size = w.heap.size + 5 ∧ Mod Nothing w W := by
  intro W
  have b : ∀ (u : World) (n : Nat) t c, u.heap.size = n → Bk (u.alloc (.cells c.toArray t)) n t c := fun u n t c h => by subst h; exact Bk.new u t c
  refine ⟨?_, ?_, ?_, ?_, ?_, by simp [W], ?_⟩
  · exact ((((b w _ t0 c0 rfl).alloc _).alloc _).alloc _).alloc _
  · exact (((b _ _ t1 c1 (by simp)).alloc _).alloc _).alloc _
  · exact ((b _ _ t2 c2 (by simp)).alloc _).alloc _
  · exact (b _ _ t3 c3 (by simp)).alloc _
  · exact b _ _ t4 c4 (by simp)
  · exact (((((Mod.refl _ _).alloc _).alloc _).alloc _).alloc _).alloc _

set_option maxRecDepth 100000 in
set_option maxHeartbeats 8000000 in
theorem rpiece_any (p q : Pt) (b : Bx) (w : World) (hp : PtNear p) (hq : PtNear q) (hb0 : PtNear b.lo) (hb1 : PtNear b.hi) :
    Calls Try.prog 23 #[ptV p, ptV q, bxV b] w (RPost (rPiece p q b) w) := by
  have HPN := hid_ hp
  have HQN := hid_ hq
  obtain ⟨⟨px1, px2⟩, py1, py2⟩ := hp
  obtain ⟨⟨qx1, qx2⟩, qy1, qy2⟩ := hq
  have v1 : IntKind.i64.wrap (q.x - p.x) = q.x - p.x := IntWalk.i64_in _ (by omega)
  have v2 : IntKind.i64.wrap (q.y - p.y) = q.y - p.y := IntWalk.i64_in _ (by omega)
  obtain ⟨b0, b1, b2, b3, b4, hsz, hmod⟩ := five_ w 24 24 26 24 24 [.int .i64 p.x, .int .i64 p.y] [.int .i64 q.x, .int .i64 q.y] [.int .i64 b.lo.x, .int .i64 b.lo.y, .int .i64 b.hi.x, .int .i64 b.hi.y] [.int .i64 0, .int .i64 0] [.int .i64 0, .int .i64 0]
  obtain ⟨W, hW⟩ : ∃ W, W = ((((w.alloc (.cells #[.int .i64 p.x, .int .i64 p.y] 24)).alloc (.cells #[.int .i64 q.x, .int .i64 q.y] 24)).alloc (.cells #[.int .i64 b.lo.x, .int .i64 b.lo.y, .int .i64 b.hi.x, .int .i64 b.hi.y] 26)).alloc (.cells #[.int .i64 0, .int .i64 0] 24)).alloc (.cells #[.int .i64 0, .int .i64 0] 24) := ⟨_, rfl⟩
  rw [← hW] at b0 b1 b2 b3 b4 hsz hmod
  obtain ⟨n, hn⟩ : ∃ n, n = w.heap.size := ⟨_, rfl⟩
  rw [← hn] at b0 b1 b2 b3 b4 hsz
  have H0 := hid_ b0
  have H1 := hid_ b1
  have H2 := hid_ b2
  have H3 := hid_ b3
  have H4 := hid_ b4
  have HM := hid_ hmod
  have HNN := hid_ hn
  clear b0 b1 b2 b3 b4 hmod
  have hone : RaOk (0, 1) := ⟨by decide, by decide, by decide, by decide⟩
  have htwo : RaOk (1, 1) := ⟨by decide, by decide, by decide, by decide⟩
  have CB := hid_ (fun w' => rbound_any p.x (q.x - p.x) b.lo.x b.hi.x (0, 1) (1, 1) w' ⟨px1, px2⟩ ⟨by omega, by omega⟩ hb0.1 hb1.1 hone htwo)
  obtain ⟨ho1, ho2⟩ := rBound_ok (p := p.x) (d := q.x - p.x) (least := b.lo.x) (most := b.hi.x) ⟨px1, px2⟩ ⟨by omega, by omega⟩ hb0.1 hb1.1 hone htwo
  have hrp : rPiece p q b = rPiece p q b := rfl
  obtain ⟨s, hs⟩ : ∃ s, s = rBound p.x (q.x - p.x) b.lo.x b.hi.x (0, 1) (1, 1) := ⟨_, rfl⟩
  rw [← hs] at CB ho1 ho2
  have hR : rPiece p q b = if s.2.2 then (ptAt p (q.x - p.x) (q.y - p.y) (rBound p.y (q.y - p.y) b.lo.y b.hi.y s.1 s.2.1).1, ptAt p (q.x - p.x) (q.y - p.y) (rBound p.y (q.y - p.y) b.lo.y b.hi.y s.1 s.2.1).2.1, (rBound p.y (q.y - p.y) b.lo.y b.hi.y s.1 s.2.1).2.2) else (p, q, false) := by rw [hs]; rfl
  have CB2 := hid_ (fun w' => rbound_any p.y (q.y - p.y) b.lo.y b.hi.y s.1 s.2.1 w' ⟨py1, py2⟩ ⟨by omega, by omega⟩ hb0.2 hb1.2 ho1 ho2)
  obtain ⟨ho3, ho4⟩ := rBound_ok (p := p.y) (d := q.y - p.y) (least := b.lo.y) (most := b.hi.y) ⟨py1, py2⟩ ⟨by omega, by omega⟩ hb0.2 hb1.2 ho1 ho2
  obtain ⟨t, ht⟩ : ∃ t, t = rBound p.y (q.y - p.y) b.lo.y b.hi.y s.1 s.2.1 := ⟨_, rfl⟩
  rw [← ht] at CB2 hR ho3 ho4
  obtain ⟨low, high, ok⟩ := s
  obtain ⟨low2, high2, ok2⟩ := t
  have HR := hid_ hR
  have HLO2 := hid_ ho3
  have HHI2 := hid_ ho4
  clear hrp hR hs ht hone htwo ho1 ho2 ho3 ho4 hb0 hb1
  obtain ⟨p0, p1, -, -, pl⟩ := H0.out.two
  obtain ⟨q0, q1, -, -, ql⟩ := H1.out.two
  obtain ⟨c0, c1, c2, c3, -, -, -, -, cl⟩ := H2.out.four
  go_enter Try.func23, Try.ntmps23
  go_wp2_with fail
  rw [← hW]
  simp only [← hn]
  clear hW hn hsz
  refine (CB.out W).mono ?_
  rintro e w1 ⟨rfl, hm1⟩
  have HM9 := hid_ (HM.out.trans hm1 (fun _ _ h => h))
  have K0 := hid_ (hm1.bk H0.out id)
  have K1 := hid_ (hm1.bk H1.out id)
  have K2 := hid_ (hm1.bk H2.out id)
  have K3 := hid_ (hm1.bk H3.out id)
  have K4 := hid_ (hm1.bk H4.out id)
  clear hm1 p0 p1 pl q0 q1 ql c0 c1 c2 c3 cl H0 H1 H2 H3 H4 HM
  obtain ⟨p0, p1, -, -, pl⟩ := K0.out.two
  obtain ⟨q0, q1, -, -, ql⟩ := K1.out.two
  obtain ⟨c0, c1, c2, c3, -, -, -, -, cl⟩ := K2.out.four
  cases ok with
  | false =>
    have HRP := hid_ (HR.out.trans (if_neg (by decide)))
    go_wp2_with fail
    obtain ⟨w2, hw2⟩ : ∃ w2, w2 = (w1.alloc (.cells #[.int .i64 low.1, .int .i64 low.2] 53)).alloc (.cells #[.int .i64 high.1, .int .i64 high.2] 53) := ⟨_, rfl⟩
    have HM9 := hid_ (show Mod Nothing w w2 from by rw [hw2]; exact (HM9.out.alloc _).alloc _)
    have K0 := hid_ (show Bk w2 n 24 _ from by rw [hw2]; exact (K0.out.alloc _).alloc _)
    have K1 := hid_ (show Bk w2 (n + 1) 24 _ from by rw [hw2]; exact (K1.out.alloc _).alloc _)
    have K3 := hid_ (show Bk w2 (n + 1 + 1 + 1) 24 _ from by rw [hw2]; exact (K3.out.alloc _).alloc _)
    have K4 := hid_ (show Bk w2 (n + 1 + 1 + 1 + 1) 24 _ from by rw [hw2]; exact (K4.out.alloc _).alloc _)
    rw [← hw2]
    clear hw2 p0 p1 pl q0 q1 ql c0 c1 c2 c3 cl K2
    refine wp_region_stepsL [ptV p, ptV q, undef, undef, .bool false] (Sto2 w2 (n + 1 + 1 + 1) (n + 1 + 1 + 1 + 1) 24 (.int .i64 0) (.int .i64 0) (.int .i64 p.x) (.int .i64 p.y) 2 (.int .i64 0) (.int .i64 0) (.int .i64 q.x) (.int .i64 q.y) 3) (by kernel_rfl) (by kernel_rfl)
      (by simp only [putAll, Act.put, List.setIfInBounds_toArray, List.set_cons_zero, List.set_cons_succ]; rfl) (⟨(Mod.refl _ _).drew, K3.out, K4.out⟩) ?_ ?_
    · refine ⟨?_, ?_, ?_, ?_, ?_, trivial⟩
      · intro L w' hun hw hC
        refine step_yes rfl ?_
        have HC := hid_ hC
        obtain ⟨x0, x1, -, -, xl⟩ := (HC.out.base.bk K0.out (show ¬ (n = n + 1 + 1 + 1 ∨ n = n + 1 + 1 + 1 + 1) by omega)).two
        clear hun hw hC
        go_simp
        exact still rfl (HC.out.skip (n := 0) (by decide) (by decide) (Mod.refl _ _))
      · intro L w' hun hw hC
        refine step_yes rfl ?_
        have HC := hid_ hC
        obtain ⟨x0, x1, -, -, xl⟩ := (HC.out.base.bk K1.out (show ¬ (n + 1 = n + 1 + 1 + 1 ∨ n + 1 = n + 1 + 1 + 1 + 1) by omega)).two
        clear hun hw hC
        go_simp
        exact still rfl (HC.out.skip (n := 1) (by decide) (by decide) (Mod.refl _ _))
      · intro L w' hun hw hC
        refine step_yes rfl ?_
        have HC := hid_ hC
        have HU := hid_ hun
        obtain ⟨y0, y1, y2, y3, yl⟩ := (show Bk w' (n + 1 + 1 + 1) 24 [.int .i64 0, .int .i64 0] from by have := hC.one; rw [getD_un hun] at this; exact this).two
        clear hun hw hC
        go_simp
        exact still rfl (HC.out.put1 (by decide) (by omega) HU.out)
      · intro L w' hun hw hC
        refine step_yes rfl ?_
        have HC := hid_ hC
        have HU := hid_ hun
        obtain ⟨y0, y1, y2, y3, yl⟩ := (show Bk w' (n + 1 + 1 + 1 + 1) 24 [.int .i64 0, .int .i64 0] from by have := hC.two; rw [getD_un hun] at this; exact this).two
        clear hun hw hC
        go_simp
        exact still rfl (HC.out.put2 (by decide) (by omega) HU.out)
      · intro L w' hun hw hC
        refine step_yes rfl ?_
        have HC := hid_ hC
        clear hun hw hC
        go_simp
        exact still rfl (HC.out.skip (n := 4) (by decide) (by decide) (Mod.refl _ _))
    · intro L w' hall hC
      have hb := hC.one
      have hc := hC.two
      rw [if_pos (hall 2 (by decide))] at hb
      rw [if_pos (hall 3 (by decide))] at hc
      obtain ⟨y0, y1, y2, y3, yl⟩ := hb.two
      obtain ⟨z0, z1, z2, z3, zl⟩ := hc.two
      have HMW := hid_ (HM9.out.trans hC.base (fun i hi e => by have := HNN.out; omega))
      clear hC hall
      go_wp2_with fail
      exact bodyPost_ret (v := .tuple #[ptV p, ptV q, .bool false]) (by simp [results, Try.results23, go_sem, y0, y1, z0, z1]) rfl ⟨by rw [HRP.out], HMW.out⟩
  | true =>
    have HRP := hid_ (HR.out.trans (if_pos rfl))
    obtain ⟨w2, hw2⟩ : ∃ w2, w2 = (w1.alloc (.cells #[.int .i64 low.1, .int .i64 low.2] 53)).alloc (.cells #[.int .i64 high.1, .int .i64 high.2] 53) := ⟨_, rfl⟩
    obtain ⟨gl, hgl⟩ : ∃ gl, gl = w1.heap.size := ⟨_, rfl⟩
    have HM8 := hid_ (show Mod Nothing w w2 from by rw [hw2]; exact (HM9.out.alloc _).alloc _)
    have J0 := hid_ (show Bk w2 n 24 _ from by rw [hw2]; exact (K0.out.alloc _).alloc _)
    have J1 := hid_ (show Bk w2 (n + 1) 24 _ from by rw [hw2]; exact (K1.out.alloc _).alloc _)
    have J3 := hid_ (show Bk w2 (n + 1 + 1 + 1) 24 _ from by rw [hw2]; exact (K3.out.alloc _).alloc _)
    have J4 := hid_ (show Bk w2 (n + 1 + 1 + 1 + 1) 24 _ from by rw [hw2]; exact (K4.out.alloc _).alloc _)
    have JL := hid_ (show Bk w2 gl 53 [.int .i64 low.1, .int .i64 low.2] from by rw [hw2, hgl]; exact (Bk.new _ _ _).alloc _)
    have JH := hid_ (show Bk w2 (gl + 1) 53 [.int .i64 high.1, .int .i64 high.2] from by
      have h := Bk.new (w1.alloc (.cells #[.int .i64 low.1, .int .i64 low.2] 53)) 53 [.int .i64 high.1, .int .i64 high.2]
      rw [World.size_alloc, ← hgl] at h
      rw [hw2]; exact h)
    have HGL := hid_ (show n + 5 ≤ gl from by have := K4.out.lt; omega)
    go_wp2_with fail
    rw [← hw2]
    simp only [← hgl]
    clear hw2 hgl p0 p1 pl q0 q1 ql c0 c1 c2 c3 cl K0 K1 K2 K3 K4 HM9
    refine (CB2.out w2).mono ?_
    rintro e w3 ⟨rfl, hm3⟩
    have HM7 := hid_ (HM8.out.trans hm3 (fun _ _ h => h))
    have I0 := hid_ (hm3.bk J0.out id)
    have I1 := hid_ (hm3.bk J1.out id)
    have I3 := hid_ (hm3.bk J3.out id)
    have I4 := hid_ (hm3.bk J4.out id)
    have IL := hid_ (hm3.bk JL.out id)
    have IH := hid_ (hm3.bk JH.out id)
    clear hm3 J0 J1 J3 J4 JL JH HM8
    obtain ⟨x0, x1, x2, x3, xl⟩ := IL.out.two
    obtain ⟨y0, y1, y2, y3, yl⟩ := IH.out.two
    go_wp2_with fail
    obtain ⟨W9, hW9⟩ : ∃ W9, W9 = (((w3.setCell ⟨gl, 0, none⟩ (.int .i64 low2.1)).setCell ⟨gl, 1, none⟩ (.int .i64 low2.2)).setCell ⟨gl + 1, 0, none⟩ (.int .i64 high2.1)).setCell ⟨gl + 1, 1, none⟩ (.int .i64 high2.2) := ⟨_, rfl⟩
    have hge := HGL.out
    have far : ∀ {k t cs}, Bk w3 k t cs → k ≠ gl → k ≠ gl + 1 → Bk W9 k t cs := fun hb h1 h2 => by rw [hW9]; exact (((hb.far h1 _).far h1 _).far h2 _).far h2 _
    have K0 := hid_ (far I0.out (by omega) (by omega))
    have K1 := hid_ (far I1.out (by omega) (by omega))
    have K3 := hid_ (far I3.out (by omega) (by omega))
    have K4 := hid_ (far I4.out (by omega) (by omega))
    have HL := hid_ (show Bk W9 gl 53 [.int .i64 low2.1, .int .i64 low2.2] from by rw [hW9]; exact ((((IL.out.set 0 _).set 1 _).far (by show gl ≠ gl + 1; omega) _).far (by show gl ≠ gl + 1; omega) _))
    have HH := hid_ (show Bk W9 (gl + 1) 53 [.int .i64 high2.1, .int .i64 high2.2] from by rw [hW9]; exact ((((IH.out.far (by show gl + 1 ≠ gl; omega) _).far (by show gl + 1 ≠ gl; omega) _).set 0 _).set 1 _))
    have HM9 := hid_ (show Mod Nothing w W9 from by
      rw [hW9]
      have hn := HNN.out
      exact (((HM7.out.setNew (p := ⟨gl, 0, none⟩) (by show w.heap.size ≤ gl; omega) _).setNew (p := ⟨gl, 1, none⟩) (by show w.heap.size ≤ gl; omega) _).setNew (p := ⟨gl + 1, 0, none⟩) (by show w.heap.size ≤ gl + 1; omega) _).setNew (p := ⟨gl + 1, 1, none⟩) (by show w.heap.size ≤ gl + 1; omega) _)
    have HNE := hid_ (show n + 5 ≤ gl ∧ n + 5 ≤ gl + 1 from ⟨by omega, by omega⟩)
    rw [← hW9]
    clear hW9 far hge x0 x1 x2 x3 xl y0 y1 y2 y3 yl I0 I1 I3 I4 IL IH HM7
    refine wp_region_stepsL [ptV p, ptV q, raV low2, ptV (ptAt p (q.x - p.x) (q.y - p.y) low2), ptV p, ptV q, raV high2, ptV (ptAt p (q.x - p.x) (q.y - p.y) high2), .bool ok2, undef, undef, .bool ok2] (Sto2 W9 (n + 1 + 1 + 1) (n + 1 + 1 + 1 + 1) 24 (.int .i64 0) (.int .i64 0) (.int .i64 (ptAt p (q.x - p.x) (q.y - p.y) low2).x) (.int .i64 (ptAt p (q.x - p.x) (q.y - p.y) low2).y) 9 (.int .i64 0) (.int .i64 0) (.int .i64 (ptAt p (q.x - p.x) (q.y - p.y) high2).x) (.int .i64 (ptAt p (q.x - p.x) (q.y - p.y) high2).y) 10) (by kernel_rfl) (by kernel_rfl)
      (by simp only [putAll, Act.put, List.setIfInBounds_toArray, List.set_cons_zero, List.set_cons_succ]; rfl) (⟨(Mod.refl _ _).drew, K3.out, K4.out⟩) ?_ ?_
    · refine ⟨?_, ?_, ?_, ?_, ?_, ?_, ?_, ?_, ?_, ?_, ?_, ?_, trivial⟩
      · intro L w' hun hw hC
        refine step_yes rfl ?_
        have HC := hid_ hC
        obtain ⟨x0, x1, -, -, xl⟩ := (HC.out.base.bk K0.out (show ¬ (n = n + 1 + 1 + 1 ∨ n = n + 1 + 1 + 1 + 1) by omega)).two
        clear hun hw hC
        go_simp
        exact still rfl (HC.out.skip (n := 0) (by decide) (by decide) (Mod.refl _ _))
      · intro L w' hun hw hC
        refine step_yes rfl ?_
        have HC := hid_ hC
        obtain ⟨x0, x1, -, -, xl⟩ := (HC.out.base.bk K1.out (show ¬ (n + 1 = n + 1 + 1 + 1 ∨ n + 1 = n + 1 + 1 + 1 + 1) by omega)).two
        clear hun hw hC
        go_simp
        exact still rfl (HC.out.skip (n := 1) (by decide) (by decide) (Mod.refl _ _))
      · intro L w' hun hw hC
        refine step_yes rfl ?_
        have HC := hid_ hC
        obtain ⟨x0, x1, -, -, xl⟩ := (HC.out.base.bk HL.out (show ¬ (gl = n + 1 + 1 + 1 ∨ gl = n + 1 + 1 + 1 + 1) by have := HNE.out; omega)).two
        clear hun hw hC
        go_simp
        exact still rfl (HC.out.skip (n := 2) (by decide) (by decide) (Mod.refl _ _))
      · intro L w' hun hw hC
        refine step_yes rfl ?_
        have HC := hid_ hC
        clear hun hw hC
        go_simp
        refine (rat_any p q low2 _ HPN.out HQN.out HLO2.out).mono ?_
        rintro e w3 ⟨rfl, hm⟩
        exact still rfl (HC.out.skip (n := 3) (by decide) (by decide) hm)
      · intro L w' hun hw hC
        refine step_yes rfl ?_
        have HC := hid_ hC
        obtain ⟨x0, x1, -, -, xl⟩ := (HC.out.base.bk K0.out (show ¬ (n = n + 1 + 1 + 1 ∨ n = n + 1 + 1 + 1 + 1) by omega)).two
        clear hun hw hC
        go_simp
        exact still rfl (HC.out.skip (n := 4) (by decide) (by decide) (Mod.refl _ _))
      · intro L w' hun hw hC
        refine step_yes rfl ?_
        have HC := hid_ hC
        obtain ⟨x0, x1, -, -, xl⟩ := (HC.out.base.bk K1.out (show ¬ (n + 1 = n + 1 + 1 + 1 ∨ n + 1 = n + 1 + 1 + 1 + 1) by omega)).two
        clear hun hw hC
        go_simp
        exact still rfl (HC.out.skip (n := 5) (by decide) (by decide) (Mod.refl _ _))
      · intro L w' hun hw hC
        refine step_yes rfl ?_
        have HC := hid_ hC
        obtain ⟨x0, x1, -, -, xl⟩ := (HC.out.base.bk HH.out (show ¬ (gl + 1 = n + 1 + 1 + 1 ∨ gl + 1 = n + 1 + 1 + 1 + 1) by have := HNE.out; omega)).two
        clear hun hw hC
        go_simp
        exact still rfl (HC.out.skip (n := 6) (by decide) (by decide) (Mod.refl _ _))
      · intro L w' hun hw hC
        refine step_yes rfl ?_
        have HC := hid_ hC
        clear hun hw hC
        go_simp
        refine (rat_any p q high2 _ HPN.out HQN.out HHI2.out).mono ?_
        rintro e w3 ⟨rfl, hm⟩
        exact still rfl (HC.out.skip (n := 7) (by decide) (by decide) hm)
      · intro L w' hun hw hC
        refine step_yes rfl ?_
        have HC := hid_ hC
        clear hun hw hC
        go_simp
        exact still rfl (HC.out.skip (n := 8) (by decide) (by decide) (Mod.refl _ _))
      · intro L w' hun hw hC
        refine step_yes rfl ?_
        have HC := hid_ hC
        have HU := hid_ hun
        obtain ⟨y0, y1, y2, y3, yl⟩ := (show Bk w' (n + 1 + 1 + 1) 24 [.int .i64 0, .int .i64 0] from by have := hC.one; rw [getD_un hun] at this; exact this).two
        clear hun hw hC
        go_simp
        exact still rfl (HC.out.put1 (by decide) (by omega) HU.out)
      · intro L w' hun hw hC
        refine step_yes rfl ?_
        have HC := hid_ hC
        have HU := hid_ hun
        obtain ⟨y0, y1, y2, y3, yl⟩ := (show Bk w' (n + 1 + 1 + 1 + 1) 24 [.int .i64 0, .int .i64 0] from by have := hC.two; rw [getD_un hun] at this; exact this).two
        clear hun hw hC
        go_simp
        exact still rfl (HC.out.put2 (by decide) (by omega) HU.out)
      · intro L w' hun hw hC
        refine step_yes rfl ?_
        have HC := hid_ hC
        clear hun hw hC
        go_simp
        exact still rfl (HC.out.skip (n := 11) (by decide) (by decide) (Mod.refl _ _))
    · intro L w' hall hC
      have hb := hC.one
      have hc := hC.two
      rw [if_pos (hall 9 (by decide))] at hb
      rw [if_pos (hall 10 (by decide))] at hc
      obtain ⟨y0, y1, y2, y3, yl⟩ := hb.two
      obtain ⟨z0, z1, z2, z3, zl⟩ := hc.two
      have HMW := hid_ (HM9.out.trans hC.base (fun i hi e => by have := HNN.out; omega))
      clear hC hall
      go_wp2_with fail
      exact bodyPost_ret (v := .tuple #[ptV (ptAt p (q.x - p.x) (q.y - p.y) low2), ptV (ptAt p (q.x - p.x) (q.y - p.y) high2), .bool ok2]) (by simp [results, Try.results23, go_sem, y0, y1, z0, z1]) rfl ⟨by rw [HRP.out], HMW.out⟩
end Go.Proofs.Ytadiajlegajclaa
