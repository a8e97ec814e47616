/- The reference: less, floor, Round, at. -/
import Derived.Test.YtadiajlegajclaaL6
import Derived.Test.YtadiajlegajclaaW6
set_option linter.unusedVariables false
set_option linter.unusedSimpArgs false
namespace Go.Proofs.Ytadiajlegajclaa
open Go.RowKit

set_option maxHeartbeats 400000 in
theorem rless_any (r s : Ra) (w : World) (hr : RaOk r) (hs : RaOk s) : Calls Try.prog 53 #[raV r, raV s] w (BPost (Ra.less r s) w) := by
  obtain ⟨r1, r2, r3, r4⟩ := hr
  obtain ⟨s1, s2, s3, s4⟩ := hs
  have m1 := mul_bd (a := r.1) (b := s.2) (A := 4194304) (B := 4194304) (by omega) (by omega) (by omega) (by omega)
  have m2 := mul_bd (a := s.1) (b := r.2) (A := 4194304) (B := 4194304) (by omega) (by omega) (by omega) (by omega)
  obtain ⟨m1, m3⟩ := m1
  obtain ⟨m2, m4⟩ := m2
  go_enter Try.func53, Try.ntmps53
  go_wp2
  all_goals
    go_returns
    refine ⟨ret_bool ?_, ((Mod.refl _ _).alloc _).alloc _⟩
    rw [Bool.eq_iff_iff]
    unfold Ra.less
    simp only [decide_eq_true_eq]

theorem four_ (w : World) (t0 t1 t2 t3 : TypeId) (c0 c1 c2 c3 : List Value) :
    let W := (((w.alloc (.cells c0.toArray t0)).alloc (.cells c1.toArray t1)).alloc (.cells c2.toArray t2)).alloc (.cells c3.toArray t3)
    Bk W w.heap.size t0 c0 ∧ Bk W (w.heap.size + 1) t1 c1 ∧ Bk W (w.heap.size + 1 + 1) t2 c2 ∧ Bk W (w.heap.size + 1 + 1 + 1) t3 c3 ∧ W.heap.size = w.heap.size + 4 ∧ Mod Nothing w W := by
  intro W
  have b : ∀ (u : World) (n : Nat) t c, u.heap.size = n → Bk (u.alloc (.cells c.toArray t)) n t c := fun u n t c h => by subst h; exact Bk.new u t c
  refine ⟨?_, ?_, ?_, ?_, by simp [W], ?_⟩
  · exact (((b w _ t0 c0 rfl).alloc _).alloc _).alloc _
  · exact ((b _ _ t1 c1 (by simp)).alloc _).alloc _
  · exact (b _ _ t2 c2 (by simp)).alloc _
  · exact b _ _ t3 c3 (by simp)
  · exact ((((Mod.refl _ _).alloc _).alloc _).alloc _).alloc _
theorem six_ (w : World) (t0 t1 t2 t3 t4 t5 : TypeId) (c0 c1 c2 c3 c4 c5 : List Value) :
    let W := (((((w.alloc (.cells c0.toArray t0)).alloc (.cells c1.toArray t1)).alloc (.cells c2.toArray t2)).alloc (.cells c3.toArray t3)).alloc (.cells c4.toArray t4)).alloc (.cells c5.toArray t5)
    Bk W w.heap.size t0 c0 ∧ Bk W (w.heap.size + 1) t1 c1 ∧ Bk W (w.heap.size + 1 + 1) t2 c2 ∧ Bk W (w.heap.size + 1 + 1 + 1) t3 c3 ∧ Bk W (w.heap.size + 1 + 1 + 1 + 1) t4 c4 ∧ Bk W (w.heap.size + 1 + 1 + 1 + 1 + 1) t5 c5 ∧ W.heap.size = w.heap.size + 6 ∧ Mod Nothing w W := by
  intro W
  have b : ∀ (u : World) (n : Nat) t c, u.heap.size = n → Bk (u.alloc (.cells c.toArray t)) n t c := fun u n t c h => by subst h; exact Bk.new u t c
  refine ⟨?_, ?_, ?_, ?_, ?_, ?_, by simp [W], ?_⟩
  · exact (((((b w _ t0 c0 rfl).alloc _).alloc _).alloc _).alloc _).alloc _
  · exact ((((b _ _ t1 c1 (by simp)).alloc _).alloc _).alloc _).alloc _
  · exact (((b _ _ t2 c2 (by simp)).alloc _).alloc _).alloc _
  · exact ((b _ _ t3 c3 (by simp)).alloc _).alloc _
  · exact (b _ _ t4 c4 (by simp)).alloc _
  · exact b _ _ t5 c5 (by simp)
  · exact ((((((Mod.refl _ _).alloc _).alloc _).alloc _).alloc _).alloc _).alloc _
theorem ediv_tdiv {a b : Int} (hb : 0 < b) : a / b = if a.tmod b < 0 then a.tdiv b - 1 else a.tdiv b := by
  have h3 := Int.emod_nonneg a (show b ≠ 0 by omega)
  have h4 := Int.emod_lt_of_pos a hb
  have hs : b.sign = 1 := Int.sign_eq_one_of_pos hb
  rw [Int.tdiv_eq_ediv, Int.tmod_eq_emod, hs]
  by_cases h : 0 ≤ a ∨ b ∣ a
  · rw [if_pos h, if_pos h, if_neg (by omega)]
    omega
  · rw [if_neg h, if_neg h, if_pos (by omega)]
    omega
set_option maxHeartbeats 400000 in
theorem rfloor_any (a b : Int) (w : World) (hb : 0 < b) (hb2 : b ≤ 8388608) (ha1 : -100000000000000 ≤ a) (ha2 : a ≤ 100000000000000) : Calls Try.prog 55 #[.int .i64 a, .int .i64 b] w (IPost (a / b) w) := by
  have hR := ediv_tdiv (a := a) hb
  obtain ⟨R, hRR⟩ : ∃ R, R = a / b := ⟨_, rfl⟩
  rw [← hRR] at hR ⊢
  have HR := hid_ hR
  have HTD := hid_ (tdiv_bd (a := a) b (K := 100000000000000) (by omega) (by omega))
  clear hR hRR
  go_enter Try.func55, Try.ntmps55
  go_wp2
  · go_returns
    refine ⟨ret_int ?_, Mod.refl _ _⟩
    have hlt : a.tmod b < 0 := by assumption
    have htd := HTD.out
    rw [HR.out, if_pos hlt]
    exact IntWalk.wrap64_in _ ⟨by omega, by omega⟩
  · go_returns
    refine ⟨ret_int ?_, Mod.refl _ _⟩
    have hlt : 0 ≤ a.tmod b := by assumption
    rw [HR.out, if_neg (by omega)]
theorem rround_any (a b : Int) (w : World) (hb : 0 < b) (hb2 : b ≤ 4194304) (ha1 : -20000000000000 ≤ a) (ha2 : a ≤ 20000000000000) : Calls Try.prog 52 #[.int .i64 a, .int .i64 b] w (IPost (rnd a b) w) := by
  have v1 : IntKind.i64.wrap (2 * a) = 2 * a := IntWalk.i64_in _ (by omega)
  have v2 : IntKind.i64.wrap (2 * a + b) = 2 * a + b := IntWalk.i64_in _ (by omega)
  have v3 : IntKind.i64.wrap (2 * b) = 2 * b := IntWalk.i64_in _ (by omega)
  go_enter Try.func52, Try.ntmps52
  go_wp2_with fail
  refine (rfloor_any (2 * a + b) (2 * b) w (by omega) (by omega) (by omega) (by omega)).mono ?_
  rintro e w1 ⟨rfl, hm1⟩
  have HM := hid_ hm1
  clear hm1 v1 v2 v3
  go_wp2
  go_returns
  exact ⟨rfl, HM.out⟩

set_option maxRecDepth 100000 in
set_option maxHeartbeats 8000000 in
theorem rat_any (p q : Pt) (t : Ra) (w : World) (hp : PtNear p) (hq : PtNear q) (ht : RaOk t) : Calls Try.prog 43 #[ptV p, ptV q, raV t] w (PPost (ptAt p (q.x - p.x) (q.y - p.y) t) w) := by
  obtain ⟨⟨px1, px2⟩, py1, py2⟩ := hp
  obtain ⟨⟨qx1, qx2⟩, qy1, qy2⟩ := hq
  obtain ⟨h1, h2, h3, h4⟩ := ht
  have m1 := mul_bd (a := t.1) (b := q.x - p.x) (A := 4194304) (B := 4194304) (by omega) (by omega) (by omega) (by omega)
  have m2 := mul_bd (a := t.1) (b := q.y - p.y) (A := 4194304) (B := 4194304) (by omega) (by omega) (by omega) (by omega)
  obtain ⟨m1, m3⟩ := m1
  obtain ⟨m2, m4⟩ := m2
  obtain ⟨r1, r3⟩ := rnd_bd (r := t) (n := q.x - p.x) ⟨h1, h2, h3, h4⟩ (by omega) (by omega)
  obtain ⟨r2, r4⟩ := rnd_bd (r := t) (n := q.y - p.y) ⟨h1, h2, h3, h4⟩ (by omega) (by omega)
  have v1 : IntKind.i64.wrap (q.x - p.x) = q.x - p.x := IntWalk.i64_in _ (by omega)
  have v2 : IntKind.i64.wrap (q.y - p.y) = q.y - p.y := IntWalk.i64_in _ (by omega)
  have v3 : IntKind.i64.wrap (t.1 * (q.x - p.x)) = t.1 * (q.x - p.x) := IntWalk.i64_in _ (by omega)
  have v4 : IntKind.i64.wrap (t.1 * (q.y - p.y)) = t.1 * (q.y - p.y) := IntWalk.i64_in _ (by omega)
  have v5 : IntKind.i64.wrap (p.x + rnd (t.1 * (q.x - p.x)) t.2) = p.x + rnd (t.1 * (q.x - p.x)) t.2 := IntWalk.i64_in _ (by omega)
  have v6 : IntKind.i64.wrap (p.y + rnd (t.1 * (q.y - p.y)) t.2) = p.y + rnd (t.1 * (q.y - p.y)) t.2 := IntWalk.i64_in _ (by omega)
  obtain ⟨b0, b1, b2, b3, hsz, hmod⟩ := four_ w 24 24 53 24 [.int .i64 p.x, .int .i64 p.y] [.int .i64 q.x, .int .i64 q.y] [.int .i64 t.1, .int .i64 t.2] [.int .i64 0, .int .i64 0]
  obtain ⟨W, hW⟩ : ∃ W, W = (((w.alloc (.cells #[.int .i64 p.x, .int .i64 p.y] 24)).alloc (.cells #[.int .i64 q.x, .int .i64 q.y] 24)).alloc (.cells #[.int .i64 t.1, .int .i64 t.2] 53)).alloc (.cells #[.int .i64 0, .int .i64 0] 24) := ⟨_, rfl⟩
  rw [← hW] at b0 b1 b2 b3 hsz hmod
  obtain ⟨n, hn⟩ : ∃ n, n = w.heap.size := ⟨_, rfl⟩
  rw [← hn] at b0 b1 b2 b3 hsz
  have HP := hid_ b0
  have HQ := hid_ b1
  have HR := hid_ b2
  have HO := hid_ b3
  have HM := hid_ hmod
  clear b0 b1 b2 b3 hmod
  have HNN := hid_ hn
  go_enter Try.func43, Try.ntmps43
  go_wp2_with fail
  rw [← hW]
  simp only [← hn]
  clear hW hn
  refine wp_region_stepsL [.pointer (some ⟨n, 0, none⟩), .int .i64 p.x, .pointer (some ⟨n + 1 + 1, 0, none⟩), .int .i64 t.1, .pointer (some ⟨n + 1, 0, none⟩), .int .i64 q.x, .pointer (some ⟨n, 0, none⟩), .int .i64 p.x, .int .i64 (q.x - p.x), .int .i64 (t.1 * (q.x - p.x)), .pointer (some ⟨n + 1 + 1, 1, none⟩), .int .i64 t.2, .int .i64 (rnd (t.1 * (q.x - p.x)) t.2), .int .i64 (p.x + rnd (t.1 * (q.x - p.x)) t.2), .pointer (some ⟨n, 1, none⟩), .int .i64 p.y, .pointer (some ⟨n + 1 + 1, 0, none⟩), .int .i64 t.1, .pointer (some ⟨n + 1, 1, none⟩), .int .i64 q.y, .pointer (some ⟨n, 1, none⟩), .int .i64 p.y, .int .i64 (q.y - p.y), .int .i64 (t.1 * (q.y - p.y)), .pointer (some ⟨n + 1 + 1, 1, none⟩), .int .i64 t.2, .int .i64 (rnd (t.1 * (q.y - p.y)) t.2), .int .i64 (p.y + rnd (t.1 * (q.y - p.y)) t.2), ptV (ptAt p (q.x - p.x) (q.y - p.y) t), undef] (Sto1 W (n + 1 + 1 + 1) 24 (.int .i64 0) (.int .i64 0) (.int .i64 (ptAt p (q.x - p.x) (q.y - p.y) t).x) (.int .i64 (ptAt p (q.x - p.x) (q.y - p.y) t).y) 29) (by kernel_rfl) (by kernel_rfl)
    (by simp only [putAll, Act.put, List.setIfInBounds_toArray, List.set_cons_zero, List.set_cons_succ]; rfl) (⟨(Mod.refl _ _).drew, HO.out⟩) ?_ ?_
  · refine ⟨?_, ?_, ?_, ?_, ?_, ?_, ?_, ?_, ?_, ?_, ?_, ?_, ?_, ?_, ?_, ?_, ?_, ?_, ?_, ?_, ?_, ?_, ?_, ?_, ?_, ?_, ?_, ?_, ?_, ?_, trivial⟩
    · intro L w' hun hw hC
      refine step_yes rfl ?_
      have HC := hid_ hC
      clear hun hw hC
      go_simp
      exact still rfl (HC.out.skip (j := 0) (by decide) (Mod.refl _ _))
    · intro L w' hun hw hC
      refine step_yes rfl ?_
      have HC := hid_ hC
      obtain ⟨x0, x1, -, -, xl⟩ := (HC.out.base.bk HP.out (show n ≠ n + 1 + 1 + 1 by omega)).two
      clear hun hw hC
      go_simp
      exact still rfl (HC.out.skip (j := 1) (by decide) (Mod.refl _ _))
    · intro L w' hun hw hC
      refine step_yes rfl ?_
      have HC := hid_ hC
      clear hun hw hC
      go_simp
      exact still rfl (HC.out.skip (j := 2) (by decide) (Mod.refl _ _))
    · intro L w' hun hw hC
      refine step_yes rfl ?_
      have HC := hid_ hC
      obtain ⟨x0, x1, -, -, xl⟩ := (HC.out.base.bk HR.out (show n + 1 + 1 ≠ n + 1 + 1 + 1 by omega)).two
      clear hun hw hC
      go_simp
      exact still rfl (HC.out.skip (j := 3) (by decide) (Mod.refl _ _))
    · intro L w' hun hw hC
      refine step_yes rfl ?_
      have HC := hid_ hC
      clear hun hw hC
      go_simp
      exact still rfl (HC.out.skip (j := 4) (by decide) (Mod.refl _ _))
    · intro L w' hun hw hC
      refine step_yes rfl ?_
      have HC := hid_ hC
      obtain ⟨x0, x1, -, -, xl⟩ := (HC.out.base.bk HQ.out (show n + 1 ≠ n + 1 + 1 + 1 by omega)).two
      clear hun hw hC
      go_simp
      exact still rfl (HC.out.skip (j := 5) (by decide) (Mod.refl _ _))
    · intro L w' hun hw hC
      refine step_yes rfl ?_
      have HC := hid_ hC
      clear hun hw hC
      go_simp
      exact still rfl (HC.out.skip (j := 6) (by decide) (Mod.refl _ _))
    · intro L w' hun hw hC
      refine step_yes rfl ?_
      have HC := hid_ hC
      obtain ⟨x0, x1, -, -, xl⟩ := (HC.out.base.bk HP.out (show n ≠ n + 1 + 1 + 1 by omega)).two
      clear hun hw hC
      go_simp
      exact still rfl (HC.out.skip (j := 7) (by decide) (Mod.refl _ _))
    · intro L w' hun hw hC
      refine step_yes rfl ?_
      have HC := hid_ hC
      clear hun hw hC
      go_simp
      exact still rfl (HC.out.skip (j := 8) (by decide) (Mod.refl _ _))
    · intro L w' hun hw hC
      refine step_yes rfl ?_
      have HC := hid_ hC
      clear hun hw hC
      go_simp
      exact still rfl (HC.out.skip (j := 9) (by decide) (Mod.refl _ _))
    · intro L w' hun hw hC
      refine step_yes rfl ?_
      have HC := hid_ hC
      clear hun hw hC
      go_simp
      exact still rfl (HC.out.skip (j := 10) (by decide) (Mod.refl _ _))
    · intro L w' hun hw hC
      refine step_yes rfl ?_
      have HC := hid_ hC
      obtain ⟨x0, x1, -, -, xl⟩ := (HC.out.base.bk HR.out (show n + 1 + 1 ≠ n + 1 + 1 + 1 by omega)).two
      clear hun hw hC
      go_simp
      exact still rfl (HC.out.skip (j := 11) (by decide) (Mod.refl _ _))
    · intro L w' hun hw hC
      refine step_yes rfl ?_
      have HC := hid_ hC
      clear hun hw hC
      go_simp
      refine (rround_any (t.1 * (q.x - p.x)) t.2 _ h1 (by omega) (by omega) (by omega)).mono ?_
      rintro e w3 ⟨rfl, hm⟩
      exact still rfl (HC.out.skip (j := 12) (by decide) hm)
    · intro L w' hun hw hC
      refine step_yes rfl ?_
      have HC := hid_ hC
      clear hun hw hC
      go_simp
      exact still rfl (HC.out.skip (j := 13) (by decide) (Mod.refl _ _))
    · intro L w' hun hw hC
      refine step_yes rfl ?_
      have HC := hid_ hC
      clear hun hw hC
      go_simp
      exact still rfl (HC.out.skip (j := 14) (by decide) (Mod.refl _ _))
    · intro L w' hun hw hC
      refine step_yes rfl ?_
      have HC := hid_ hC
      obtain ⟨x0, x1, -, -, xl⟩ := (HC.out.base.bk HP.out (show n ≠ n + 1 + 1 + 1 by omega)).two
      clear hun hw hC
      go_simp
      exact still rfl (HC.out.skip (j := 15) (by decide) (Mod.refl _ _))
    · intro L w' hun hw hC
      refine step_yes rfl ?_
      have HC := hid_ hC
      clear hun hw hC
      go_simp
      exact still rfl (HC.out.skip (j := 16) (by decide) (Mod.refl _ _))
    · intro L w' hun hw hC
      refine step_yes rfl ?_
      have HC := hid_ hC
      obtain ⟨x0, x1, -, -, xl⟩ := (HC.out.base.bk HR.out (show n + 1 + 1 ≠ n + 1 + 1 + 1 by omega)).two
      clear hun hw hC
      go_simp
      exact still rfl (HC.out.skip (j := 17) (by decide) (Mod.refl _ _))
    · intro L w' hun hw hC
      refine step_yes rfl ?_
      have HC := hid_ hC
      clear hun hw hC
      go_simp
      exact still rfl (HC.out.skip (j := 18) (by decide) (Mod.refl _ _))
    · intro L w' hun hw hC
      refine step_yes rfl ?_
      have HC := hid_ hC
      obtain ⟨x0, x1, -, -, xl⟩ := (HC.out.base.bk HQ.out (show n + 1 ≠ n + 1 + 1 + 1 by omega)).two
      clear hun hw hC
      go_simp
      exact still rfl (HC.out.skip (j := 19) (by decide) (Mod.refl _ _))
    · intro L w' hun hw hC
      refine step_yes rfl ?_
      have HC := hid_ hC
      clear hun hw hC
      go_simp
      exact still rfl (HC.out.skip (j := 20) (by decide) (Mod.refl _ _))
    · intro L w' hun hw hC
      refine step_yes rfl ?_
      have HC := hid_ hC
      obtain ⟨x0, x1, -, -, xl⟩ := (HC.out.base.bk HP.out (show n ≠ n + 1 + 1 + 1 by omega)).two
      clear hun hw hC
      go_simp
      exact still rfl (HC.out.skip (j := 21) (by decide) (Mod.refl _ _))
    · intro L w' hun hw hC
      refine step_yes rfl ?_
      have HC := hid_ hC
      clear hun hw hC
      go_simp
      exact still rfl (HC.out.skip (j := 22) (by decide) (Mod.refl _ _))
    · intro L w' hun hw hC
      refine step_yes rfl ?_
      have HC := hid_ hC
      clear hun hw hC
      go_simp
      exact still rfl (HC.out.skip (j := 23) (by decide) (Mod.refl _ _))
    · intro L w' hun hw hC
      refine step_yes rfl ?_
      have HC := hid_ hC
      clear hun hw hC
      go_simp
      exact still rfl (HC.out.skip (j := 24) (by decide) (Mod.refl _ _))
    · intro L w' hun hw hC
      refine step_yes rfl ?_
      have HC := hid_ hC
      obtain ⟨x0, x1, -, -, xl⟩ := (HC.out.base.bk HR.out (show n + 1 + 1 ≠ n + 1 + 1 + 1 by omega)).two
      clear hun hw hC
      go_simp
      exact still rfl (HC.out.skip (j := 25) (by decide) (Mod.refl _ _))
    · intro L w' hun hw hC
      refine step_yes rfl ?_
      have HC := hid_ hC
      clear hun hw hC
      go_simp
      refine (rround_any (t.1 * (q.y - p.y)) t.2 _ h1 (by omega) (by omega) (by omega)).mono ?_
      rintro e w3 ⟨rfl, hm⟩
      exact still rfl (HC.out.skip (j := 26) (by decide) hm)
    · intro L w' hun hw hC
      refine step_yes rfl ?_
      have HC := hid_ hC
      clear hun hw hC
      go_simp
      exact still rfl (HC.out.skip (j := 27) (by decide) (Mod.refl _ _))
    · intro L w' hun hw hC
      refine step_yes rfl ?_
      have HC := hid_ hC
      clear hun hw hC
      go_simp
      exact still rfl (HC.out.skip (j := 28) (by decide) (Mod.refl _ _))
    · intro L w' hun hw hC
      refine step_yes rfl ?_
      have HC := hid_ hC
      have HU := hid_ hun
      obtain ⟨y0, y1, y2, y3, yl⟩ := (show Bk w' (n + 1 + 1 + 1) 24 [.int .i64 0, .int .i64 0] from by have := hC.one; rw [getD_un hun] at this; exact this).two
      clear hun hw hC
      go_simp
      exact still rfl (HC.out.put HU.out)
  · intro L w' hall hC
    have hb := hC.one
    rw [if_pos (hall 29 (by decide))] at hb
    obtain ⟨y0, y1, y2, y3, yl⟩ := hb.two
    have HMW := hid_ (HM.out.trans hC.base (fun i hi e => by have := HNN.out; omega))
    clear hC hall
    go_wp2
    exact bodyPost_ret (v := ptV (ptAt p (q.x - p.x) (q.y - p.y) t)) (by simp [results, Try.results43, go_sem, y0, y1]) rfl ⟨rfl, HMW.out⟩
end Go.Proofs.Ytadiajlegajclaa
