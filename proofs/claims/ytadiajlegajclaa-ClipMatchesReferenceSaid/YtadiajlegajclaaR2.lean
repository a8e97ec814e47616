/- The reference: bound. -/
import Derived.Test.YtadiajlegajclaaR1
set_option linter.unusedVariables false
set_option linter.unusedSimpArgs false
namespace Go.Proofs.Ytadiajlegajclaa
open Go.RowKit

def rFrom (p d least most : Int) : Ra := if d < 0 then (p - most, -d) else (least - p, d)
def rTo (p d least most : Int) : Ra := if d < 0 then (p - least, -d) else (most - p, d)
/-- What the reference's bound returns. -/
def rBound (p d least most : Int) (low high : Ra) : Ra × Ra × Bool :=
  if d = 0 then (low, high, decide (least ≤ p) && decide (p ≤ most))
  else
    let lo := if Ra.less low (rFrom p d least most) then rFrom p d least most else low
    let hi := if Ra.less (rTo p d least most) high then rTo p d least most else high
    (lo, hi, !(Ra.less hi lo))
def TriPost (r : Ra × Ra × Bool) (w : World) (e : Ending) (w' : World) : Prop := e = .returned (.tuple #[raV r.1, raV r.2.1, .bool r.2.2]) ∧ Mod Nothing w w'

set_option maxRecDepth 100000 in
set_option maxHeartbeats 8000000 in
theorem rbound_any (p d least most : Int) (low high : Ra) (w : World) (hp : -2097152 ≤ p ∧ p ≤ 2097152) (hd : -4194304 ≤ d ∧ d ≤ 4194304) (hl : -2097152 ≤ least ∧ least ≤ 2097152) (hm : -2097152 ≤ most ∧ most ≤ 2097152) (hlow : RaOk low) (hhigh : RaOk high) :
    Calls Try.prog 42 #[.int .i64 p, .int .i64 d, .int .i64 least, .int .i64 most, raV low, raV high] w (TriPost (rBound p d least most low high) w) := by
  obtain ⟨b0, b1, b2, b3, hsz, hmod⟩ := four_ w 53 53 53 53 [.int .i64 low.1, .int .i64 low.2] [.int .i64 high.1, .int .i64 high.2] [.int .i64 0, .int .i64 0] [.int .i64 0, .int .i64 0]
  obtain ⟨W, hW⟩ : ∃ W, W = (((w.alloc (.cells #[.int .i64 low.1, .int .i64 low.2] 53)).alloc (.cells #[.int .i64 high.1, .int .i64 high.2] 53)).alloc (.cells #[.int .i64 0, .int .i64 0] 53)).alloc (.cells #[.int .i64 0, .int .i64 0] 53) := ⟨_, rfl⟩
  rw [← hW] at b0 b1 b2 b3 hsz hmod
  obtain ⟨n, hn⟩ : ∃ n, n = w.heap.size := ⟨_, rfl⟩
  rw [← hn] at b0 b1 b2 b3 hsz
  have H0 := hid_ b0
  have H1 := hid_ b1
  have H2 := hid_ b2
  have H3 := hid_ b3
  have HM := hid_ hmod
  have HNN := hid_ hn
  have HLOW := hid_ hlow
  have HHIGH := hid_ hhigh
  have HSZ := hid_ hsz
  clear b0 b1 b2 b3 hmod hlow hhigh
  by_cases hd0 : d = 0
  · subst hd0
    go_enter Try.func42, Try.ntmps42
    go_wp2_with fail
    rw [← hW]
    simp only [← hn]
    clear hW hn hsz
    by_cases h1 : least ≤ p
    · skip
      refine wp_region_stepsL [raV low, raV high, .int .i64 p, .int .i64 least, .bool true, .bool true, .int .i64 p, .int .i64 most, .bool (decide (p ≤ most)), .bool (decide (p ≤ most)), undef, undef, .bool (decide (p ≤ most))] (Sto2 W (n + 1 + 1) (n + 1 + 1 + 1) 53 (.int .i64 0) (.int .i64 0) (.int .i64 low.1) (.int .i64 low.2) 10 (.int .i64 0) (.int .i64 0) (.int .i64 high.1) (.int .i64 high.2) 11) (by kernel_rfl) (by kernel_rfl)
        (by simp only [putAll, Act.put, List.setIfInBounds_toArray, List.set_cons_zero, List.set_cons_succ]; rfl) (⟨(Mod.refl _ _).drew, H2.out, H3.out⟩) ?_ ?_
      · refine ⟨?_, ?_, ?_, ?_, ?_, ?_, ?_, ?_, ?_, ?_, ?_, ?_, ?_, trivial⟩
        · intro L w' hun hw hC
          refine step_yes rfl ?_
          have HC := hid_ hC
          obtain ⟨x0, x1, -, -, xl⟩ := (HC.out.base.bk H0.out (show ¬ (n = n + 1 + 1 ∨ n = n + 1 + 1 + 1) by omega)).two
          clear hun hw hC
          go_simp
          exact still rfl (HC.out.skip (n := 0) (by decide) (by decide) (Mod.refl _ _))
        · intro L w' hun hw hC
          refine step_yes rfl ?_
          have HC := hid_ hC
          obtain ⟨x0, x1, -, -, xl⟩ := (HC.out.base.bk H1.out (show ¬ (n + 1 = n + 1 + 1 ∨ n + 1 = n + 1 + 1 + 1) by omega)).two
          clear hun hw hC
          go_simp
          exact still rfl (HC.out.skip (n := 1) (by decide) (by decide) (Mod.refl _ _))
        · intro L w' hun hw hC
          refine step_yes rfl ?_
          have HC := hid_ hC
          clear hun hw hC
          go_simp
          exact still rfl (HC.out.skip (n := 2) (by decide) (by decide) (Mod.refl _ _))
        · intro L w' hun hw hC
          refine step_yes rfl ?_
          have HC := hid_ hC
          clear hun hw hC
          go_simp
          exact still rfl (HC.out.skip (n := 3) (by decide) (by decide) (Mod.refl _ _))
        · intro L w' hun hw hC
          refine step_yes rfl ?_
          have HC := hid_ hC
          clear hun hw hC
          go_simp
          exact still rfl (HC.out.skip (n := 4) (by decide) (by decide) (Mod.refl _ _))
        · intro L w' hun hw hC
          refine step_yes rfl ?_
          have HC := hid_ hC
          clear hun hw hC
          go_simp
          exact still rfl (HC.out.skip (n := 5) (by decide) (by decide) (Mod.refl _ _))
        · intro L w' hun hw hC
          refine step_yes rfl ?_
          have HC := hid_ hC
          clear hun hw hC
          go_simp
          exact still rfl (HC.out.skip (n := 6) (by decide) (by decide) (Mod.refl _ _))
        · intro L w' hun hw hC
          refine step_yes rfl ?_
          have HC := hid_ hC
          clear hun hw hC
          go_simp
          exact still rfl (HC.out.skip (n := 7) (by decide) (by decide) (Mod.refl _ _))
        · intro L w' hun hw hC
          refine step_yes rfl ?_
          have HC := hid_ hC
          clear hun hw hC
          go_simp
          exact still rfl (HC.out.skip (n := 8) (by decide) (by decide) (Mod.refl _ _))
        · intro L w' hun hw hC
          refine step_yes rfl ?_
          have HC := hid_ hC
          clear hun hw hC
          go_simp
          exact still rfl (HC.out.skip (n := 9) (by decide) (by decide) (Mod.refl _ _))
        · intro L w' hun hw hC
          refine step_yes rfl ?_
          have HC := hid_ hC
          have HU := hid_ hun
          obtain ⟨y0, y1, y2, y3, yl⟩ := (show Bk w' (n + 1 + 1) 53 [.int .i64 0, .int .i64 0] from by have := hC.one; rw [getD_un hun] at this; exact this).two
          clear hun hw hC
          go_simp
          exact still rfl (HC.out.put1 (by decide) (by omega) HU.out)
        · intro L w' hun hw hC
          refine step_yes rfl ?_
          have HC := hid_ hC
          have HU := hid_ hun
          obtain ⟨y0, y1, y2, y3, yl⟩ := (show Bk w' (n + 1 + 1 + 1) 53 [.int .i64 0, .int .i64 0] from by have := hC.two; rw [getD_un hun] at this; exact this).two
          clear hun hw hC
          go_simp
          exact still rfl (HC.out.put2 (by decide) (by omega) HU.out)
        · intro L w' hun hw hC
          refine step_yes rfl ?_
          have HC := hid_ hC
          clear hun hw hC
          go_simp
          exact still rfl (HC.out.skip (n := 12) (by decide) (by decide) (Mod.refl _ _))
      · intro L w' hall hC
        have hb := hC.one
        have hc := hC.two
        rw [if_pos (hall 10 (by decide))] at hb
        rw [if_pos (hall 11 (by decide))] at hc
        obtain ⟨y0, y1, y2, y3, yl⟩ := hb.two
        obtain ⟨z0, z1, z2, z3, zl⟩ := hc.two
        have HMW := hid_ (HM.out.trans hC.base (fun i hi e => by have := HNN.out; omega))
        clear hC hall
        go_wp2_with fail
        exact bodyPost_ret (v := .tuple #[raV low, raV high, .bool (decide (p ≤ most))]) (by simp [results, Try.results42, go_sem, y0, y1, z0, z1]) rfl ⟨by unfold rBound; rw [if_pos rfl, decide_eq_true (show least ≤ p by omega), Bool.true_and], HMW.out⟩
    · skip
      refine wp_region_stepsL [raV low, raV high, .int .i64 p, .int .i64 least, .bool false, .bool false, undef, undef, undef, .bool false, undef, undef, .bool false] (Sto2 W (n + 1 + 1) (n + 1 + 1 + 1) 53 (.int .i64 0) (.int .i64 0) (.int .i64 low.1) (.int .i64 low.2) 10 (.int .i64 0) (.int .i64 0) (.int .i64 high.1) (.int .i64 high.2) 11) (by kernel_rfl) (by kernel_rfl)
        (by simp only [putAll, Act.put, List.setIfInBounds_toArray, List.set_cons_zero, List.set_cons_succ]; rfl) (⟨(Mod.refl _ _).drew, H2.out, H3.out⟩) ?_ ?_
      · refine ⟨?_, ?_, ?_, ?_, ?_, ?_, ?_, ?_, ?_, ?_, ?_, ?_, ?_, trivial⟩
        · intro L w' hun hw hC
          refine step_yes rfl ?_
          have HC := hid_ hC
          obtain ⟨x0, x1, -, -, xl⟩ := (HC.out.base.bk H0.out (show ¬ (n = n + 1 + 1 ∨ n = n + 1 + 1 + 1) by omega)).two
          clear hun hw hC
          go_simp
          exact still rfl (HC.out.skip (n := 0) (by decide) (by decide) (Mod.refl _ _))
        · intro L w' hun hw hC
          refine step_yes rfl ?_
          have HC := hid_ hC
          obtain ⟨x0, x1, -, -, xl⟩ := (HC.out.base.bk H1.out (show ¬ (n + 1 = n + 1 + 1 ∨ n + 1 = n + 1 + 1 + 1) by omega)).two
          clear hun hw hC
          go_simp
          exact still rfl (HC.out.skip (n := 1) (by decide) (by decide) (Mod.refl _ _))
        · intro L w' hun hw hC
          refine step_yes rfl ?_
          have HC := hid_ hC
          clear hun hw hC
          go_simp
          exact still rfl (HC.out.skip (n := 2) (by decide) (by decide) (Mod.refl _ _))
        · intro L w' hun hw hC
          refine step_yes rfl ?_
          have HC := hid_ hC
          clear hun hw hC
          go_simp
          exact still rfl (HC.out.skip (n := 3) (by decide) (by decide) (Mod.refl _ _))
        · intro L w' hun hw hC
          refine step_yes rfl ?_
          have HC := hid_ hC
          clear hun hw hC
          go_simp
          exact still rfl (HC.out.skip (n := 4) (by decide) (by decide) (Mod.refl _ _))
        · intro L w' hun hw hC
          refine step_yes rfl ?_
          have HC := hid_ hC
          clear hun hw hC
          go_simp
          exact still rfl (HC.out.skip (n := 5) (by decide) (by decide) (Mod.refl _ _))
        · intro L w' hun hw hC
          exact step_no rfl (still rfl (hC.skip (n := 6) (by decide) (by decide) (Mod.refl _ _)))
        · intro L w' hun hw hC
          exact step_no rfl (still rfl (hC.skip (n := 7) (by decide) (by decide) (Mod.refl _ _)))
        · intro L w' hun hw hC
          exact step_no rfl (still rfl (hC.skip (n := 8) (by decide) (by decide) (Mod.refl _ _)))
        · intro L w' hun hw hC
          refine step_yes rfl ?_
          have HC := hid_ hC
          clear hun hw hC
          go_simp
          exact still rfl (HC.out.skip (n := 9) (by decide) (by decide) (Mod.refl _ _))
        · intro L w' hun hw hC
          refine step_yes rfl ?_
          have HC := hid_ hC
          have HU := hid_ hun
          obtain ⟨y0, y1, y2, y3, yl⟩ := (show Bk w' (n + 1 + 1) 53 [.int .i64 0, .int .i64 0] from by have := hC.one; rw [getD_un hun] at this; exact this).two
          clear hun hw hC
          go_simp
          exact still rfl (HC.out.put1 (by decide) (by omega) HU.out)
        · intro L w' hun hw hC
          refine step_yes rfl ?_
          have HC := hid_ hC
          have HU := hid_ hun
          obtain ⟨y0, y1, y2, y3, yl⟩ := (show Bk w' (n + 1 + 1 + 1) 53 [.int .i64 0, .int .i64 0] from by have := hC.two; rw [getD_un hun] at this; exact this).two
          clear hun hw hC
          go_simp
          exact still rfl (HC.out.put2 (by decide) (by omega) HU.out)
        · intro L w' hun hw hC
          refine step_yes rfl ?_
          have HC := hid_ hC
          clear hun hw hC
          go_simp
          exact still rfl (HC.out.skip (n := 12) (by decide) (by decide) (Mod.refl _ _))
      · intro L w' hall hC
        have hb := hC.one
        have hc := hC.two
        rw [if_pos (hall 10 (by decide))] at hb
        rw [if_pos (hall 11 (by decide))] at hc
        obtain ⟨y0, y1, y2, y3, yl⟩ := hb.two
        obtain ⟨z0, z1, z2, z3, zl⟩ := hc.two
        have HMW := hid_ (HM.out.trans hC.base (fun i hi e => by have := HNN.out; omega))
        clear hC hall
        go_wp2_with fail
        exact bodyPost_ret (v := .tuple #[raV low, raV high, .bool false]) (by simp [results, Try.results42, go_sem, y0, y1, z0, z1]) rfl ⟨by unfold rBound; rw [if_pos rfl, decide_eq_false (show ¬ least ≤ p by omega), Bool.false_and], HMW.out⟩
  · have HD0 := hid_ hd0
    have hdb : ((d : Int) == 0) = false := by rw [beq_eq_false_iff_ne]; exact hd0
    clear hW HM H0 H1 H2 H3 HSZ
    by_cases hneg : d < 0
    · have HNEG := hid_ hneg
      have HFOK := hid_ (show RaOk (p - most, -d) from ⟨by omega, by omega, by omega, by omega⟩)
      have HTOK := hid_ (show RaOk (p - least, -d) from ⟨by omega, by omega, by omega, by omega⟩)
      have HRBX := hid_ (show rBound p d least most low high = ((if Ra.less low (p - most, -d) then (p - most, -d) else low), (if Ra.less (p - least, -d) high then (p - least, -d) else high), !(Ra.less (if Ra.less (p - least, -d) high then (p - least, -d) else high) (if Ra.less low (p - most, -d) then (p - most, -d) else low))) by unfold rBound rFrom rTo; rw [if_neg HD0.out, if_pos HNEG.out, if_pos HNEG.out])
      obtain ⟨b0, b1, b2, b3, b4, b5, hsz, hmod⟩ := six_ w 53 53 53 53 53 53 [.int .i64 low.1, .int .i64 low.2] [.int .i64 high.1, .int .i64 high.2] [.int .i64 0, .int .i64 0] [.int .i64 0, .int .i64 0] [.int .i64 (p - most), .int .i64 (-d)] [.int .i64 (p - least), .int .i64 (-d)]
      obtain ⟨W, hW⟩ : ∃ W, W = (((((w.alloc (.cells #[.int .i64 low.1, .int .i64 low.2] 53)).alloc (.cells #[.int .i64 high.1, .int .i64 high.2] 53)).alloc (.cells #[.int .i64 0, .int .i64 0] 53)).alloc (.cells #[.int .i64 0, .int .i64 0] 53)).alloc (.cells #[.int .i64 (p - most), .int .i64 (-d)] 53)).alloc (.cells #[.int .i64 (p - least), .int .i64 (-d)] 53) := ⟨_, rfl⟩
      rw [← hW] at b0 b1 b2 b3 b4 b5 hsz hmod
      rw [← hn] at b0 b1 b2 b3 b4 b5 hsz
      have H0 := hid_ b0
      have H1 := hid_ b1
      have H2 := hid_ b2
      have H3 := hid_ b3
      have H4 := hid_ b4
      have H5 := hid_ b5
      have HM := hid_ hmod
      clear b0 b1 b2 b3 b4 b5 hmod
      go_enter Try.func42, Try.ntmps42
      go_wp2_with fail
      rw [← hW]
      simp only [← hn]
      clear hW hn hsz
      refine (rless_any low (p - most, -d) _ HLOW.out HFOK.out).mono ?_
      rintro e w1 ⟨rfl, hm1⟩
      have HM1 := hid_ (HM.out.trans hm1 (fun _ _ h => h))
      have H01 := hid_ (hm1.bk H0.out id)
      have H11 := hid_ (hm1.bk H1.out id)
      have H21 := hid_ (hm1.bk H2.out id)
      have H31 := hid_ (hm1.bk H3.out id)
      have H41 := hid_ (hm1.bk H4.out id)
      have H51 := hid_ (hm1.bk H5.out id)
      clear hm1 H0 H1 H2 H3 H4 H5 HM
      obtain ⟨x0, x1, x2, x3, xl⟩ := H01.out.two
      obtain ⟨y0, y1, -, -, yl⟩ := H11.out.two
      obtain ⟨z0, z1, -, -, zl⟩ := H41.out.two
      obtain ⟨t0, t1, -, -, tl⟩ := H51.out.two
      cases hb1 : Ra.less low (p - most, -d) with
      | true =>
        rw [hb1] at HRBX
        clear hb1
        simp only [if_true] at HRBX
        have K0 := hid_ (show Bk ((w1.setCell ⟨n, 0, none⟩ (.int .i64 (p - most, -d).1)).setCell ⟨n, 1, none⟩ (.int .i64 (p - most, -d).2)) n 53 [.int .i64 (p - most, -d).1, .int .i64 (p - most, -d).2] from (H01.out.set 0 _).set 1 _)
        have K1 := hid_ (show Bk ((w1.setCell ⟨n, 0, none⟩ (.int .i64 (p - most, -d).1)).setCell ⟨n, 1, none⟩ (.int .i64 (p - most, -d).2)) (n + 1) 53 _ from (H11.out.far (by show n + 1 ≠ n; omega) _).far (by show n + 1 ≠ n; omega) _)
        have K2 := hid_ (show Bk ((w1.setCell ⟨n, 0, none⟩ (.int .i64 (p - most, -d).1)).setCell ⟨n, 1, none⟩ (.int .i64 (p - most, -d).2)) (n + 1 + 1) 53 _ from (H21.out.far (by show n + 1 + 1 ≠ n; omega) _).far (by show n + 1 + 1 ≠ n; omega) _)
        have K3 := hid_ (show Bk ((w1.setCell ⟨n, 0, none⟩ (.int .i64 (p - most, -d).1)).setCell ⟨n, 1, none⟩ (.int .i64 (p - most, -d).2)) (n + 1 + 1 + 1) 53 _ from (H31.out.far (by show n + 1 + 1 + 1 ≠ n; omega) _).far (by show n + 1 + 1 + 1 ≠ n; omega) _)
        have K5 := hid_ (show Bk ((w1.setCell ⟨n, 0, none⟩ (.int .i64 (p - most, -d).1)).setCell ⟨n, 1, none⟩ (.int .i64 (p - most, -d).2)) (n + 1 + 1 + 1 + 1 + 1) 53 _ from (H51.out.far (by show n + 1 + 1 + 1 + 1 + 1 ≠ n; omega) _).far (by show n + 1 + 1 + 1 + 1 + 1 ≠ n; omega) _)
        have KM := hid_ (show Mod Nothing w ((w1.setCell ⟨n, 0, none⟩ (.int .i64 (p - most, -d).1)).setCell ⟨n, 1, none⟩ (.int .i64 (p - most, -d).2)) from (HM1.out.setNew (p := ⟨n, 0, none⟩) (by have := HNN.out; show w.heap.size ≤ n; omega) _).setNew (p := ⟨n, 1, none⟩) (by have := HNN.out; show w.heap.size ≤ n; omega) _)
        clear H01 H11 H21 H31 H41 H51 HM1
        go_wp2_with fail
        refine (rless_any (p - least, -d) high _ HTOK.out HHIGH.out).mono ?_
        rintro e w2 ⟨rfl, hm2⟩
        have G0 := hid_ (hm2.bk K0.out id)
        have G1 := hid_ (hm2.bk K1.out id)
        have G2 := hid_ (hm2.bk K2.out id)
        have G3 := hid_ (hm2.bk K3.out id)
        have G5 := hid_ (hm2.bk K5.out id)
        have HM9 := hid_ (KM.out.trans hm2 (fun _ _ h => h))
        clear hm2 K0 K1 K2 K3 K5 KM x0 x1 x2 x3 xl y0 y1 yl z0 z1 zl t0 t1 tl
        obtain ⟨y0, y1, y2, y3, yl⟩ := G1.out.two
        obtain ⟨t0, t1, -, -, tl⟩ := G5.out.two
        cases hb2 : Ra.less (p - least, -d) high with
        | true =>
          rw [hb2] at HRBX
          clear hb2
          simp only [if_true] at HRBX
          have HRB := hid_ HRBX.out
          clear HRBX
          go_wp2_with fail
          obtain ⟨W9, hW9⟩ : ∃ W9, W9 = (w2.setCell ⟨n + 1, 0, none⟩ (.int .i64 (p - least, -d).1)).setCell ⟨n + 1, 1, none⟩ (.int .i64 (p - least, -d).2) := ⟨_, rfl⟩
          have G0 := hid_ (show Bk W9 n 53 _ from by rw [hW9]; exact (G0.out.far (by show n ≠ n + 1; omega) _).far (by show n ≠ n + 1; omega) _)
          have G2 := hid_ (show Bk W9 (n + 1 + 1) 53 _ from by rw [hW9]; exact (G2.out.far (by show n + 1 + 1 ≠ n + 1; omega) _).far (by show n + 1 + 1 ≠ n + 1; omega) _)
          have G3 := hid_ (show Bk W9 (n + 1 + 1 + 1) 53 _ from by rw [hW9]; exact (G3.out.far (by show n + 1 + 1 + 1 ≠ n + 1; omega) _).far (by show n + 1 + 1 + 1 ≠ n + 1; omega) _)
          have G1 := hid_ (show Bk W9 (n + 1) 53 [.int .i64 (p - least, -d).1, .int .i64 (p - least, -d).2] from by rw [hW9]; exact (G1.out.set 0 _).set 1 _)
          have HM9 := hid_ (show Mod Nothing w W9 from by rw [hW9]; exact (HM9.out.setNew (p := ⟨n + 1, 0, none⟩) (by have := HNN.out; show w.heap.size ≤ n + 1; omega) _).setNew (p := ⟨n + 1, 1, none⟩) (by have := HNN.out; show w.heap.size ≤ n + 1; omega) _)
          clear y0 y1 y2 y3 yl t0 t1 tl
          simp only at hW9
          rw [← hW9]
          clear hW9
          refine wp_region_stepsL [raV (p - most, -d), raV (p - least, -d), raV (p - least, -d), raV (p - most, -d), .bool (Ra.less (p - least, -d) (p - most, -d)), .bool (!Ra.less (p - least, -d) (p - most, -d)), undef, undef, .bool (!Ra.less (p - least, -d) (p - most, -d))] (Sto2 W9 (n + 1 + 1) (n + 1 + 1 + 1) 53 (.int .i64 0) (.int .i64 0) (.int .i64 (p - most, -d).1) (.int .i64 (p - most, -d).2) 6 (.int .i64 0) (.int .i64 0) (.int .i64 (p - least, -d).1) (.int .i64 (p - least, -d).2) 7) (by kernel_rfl) (by kernel_rfl)
            (by simp only [putAll, Act.put, List.setIfInBounds_toArray, List.set_cons_zero, List.set_cons_succ]; rfl) (⟨(Mod.refl _ _).drew, G2.out, G3.out⟩) ?_ ?_
          · refine ⟨?_, ?_, ?_, ?_, ?_, ?_, ?_, ?_, ?_, trivial⟩
            · intro L w' hun hw hC
              refine step_yes rfl ?_
              have HC := hid_ hC
              obtain ⟨x0, x1, -, -, xl⟩ := (HC.out.base.bk G0.out (show ¬ (n = n + 1 + 1 ∨ n = n + 1 + 1 + 1) by omega)).two
              clear hun hw hC
              go_simp
              exact still rfl (HC.out.skip (n := 0) (by decide) (by decide) (Mod.refl _ _))
            · intro L w' hun hw hC
              refine step_yes rfl ?_
              have HC := hid_ hC
              obtain ⟨x0, x1, -, -, xl⟩ := (HC.out.base.bk G1.out (show ¬ (n + 1 = n + 1 + 1 ∨ n + 1 = n + 1 + 1 + 1) by omega)).two
              clear hun hw hC
              go_simp
              exact still rfl (HC.out.skip (n := 1) (by decide) (by decide) (Mod.refl _ _))
            · intro L w' hun hw hC
              refine step_yes rfl ?_
              have HC := hid_ hC
              obtain ⟨x0, x1, -, -, xl⟩ := (HC.out.base.bk G1.out (show ¬ (n + 1 = n + 1 + 1 ∨ n + 1 = n + 1 + 1 + 1) by omega)).two
              clear hun hw hC
              go_simp
              exact still rfl (HC.out.skip (n := 2) (by decide) (by decide) (Mod.refl _ _))
            · intro L w' hun hw hC
              refine step_yes rfl ?_
              have HC := hid_ hC
              obtain ⟨x0, x1, -, -, xl⟩ := (HC.out.base.bk G0.out (show ¬ (n = n + 1 + 1 ∨ n = n + 1 + 1 + 1) by omega)).two
              clear hun hw hC
              go_simp
              exact still rfl (HC.out.skip (n := 3) (by decide) (by decide) (Mod.refl _ _))
            · intro L w' hun hw hC
              refine step_yes rfl ?_
              have HC := hid_ hC
              clear hun hw hC
              go_simp
              refine (rless_any (p - least, -d) (p - most, -d) _ HTOK.out HFOK.out).mono ?_
              rintro e w3 ⟨rfl, hm⟩
              exact still rfl (HC.out.skip (n := 4) (by decide) (by decide) hm)
            · intro L w' hun hw hC
              refine step_yes rfl ?_
              have HC := hid_ hC
              clear hun hw hC
              go_simp
              exact still rfl (HC.out.skip (n := 5) (by decide) (by decide) (Mod.refl _ _))
            · intro L w' hun hw hC
              refine step_yes rfl ?_
              have HC := hid_ hC
              have HU := hid_ hun
              obtain ⟨y0, y1, y2, y3, yl⟩ := (show Bk w' (n + 1 + 1) 53 [.int .i64 0, .int .i64 0] from by have := hC.one; rw [getD_un hun] at this; exact this).two
              clear hun hw hC
              go_simp
              exact still rfl (HC.out.put1 (by decide) (by omega) HU.out)
            · intro L w' hun hw hC
              refine step_yes rfl ?_
              have HC := hid_ hC
              have HU := hid_ hun
              obtain ⟨y0, y1, y2, y3, yl⟩ := (show Bk w' (n + 1 + 1 + 1) 53 [.int .i64 0, .int .i64 0] from by have := hC.two; rw [getD_un hun] at this; exact this).two
              clear hun hw hC
              go_simp
              exact still rfl (HC.out.put2 (by decide) (by omega) HU.out)
            · intro L w' hun hw hC
              refine step_yes rfl ?_
              have HC := hid_ hC
              clear hun hw hC
              go_simp
              exact still rfl (HC.out.skip (n := 8) (by decide) (by decide) (Mod.refl _ _))
          · intro L w' hall hC
            have hb := hC.one
            have hc := hC.two
            rw [if_pos (hall 6 (by decide))] at hb
            rw [if_pos (hall 7 (by decide))] at hc
            obtain ⟨y0, y1, y2, y3, yl⟩ := hb.two
            obtain ⟨z0, z1, z2, z3, zl⟩ := hc.two
            have HMW := hid_ (HM9.out.trans hC.base (fun i hi e => by have := HNN.out; omega))
            clear hC hall
            go_wp2_with fail
            exact bodyPost_ret (v := .tuple #[raV (p - most, -d), raV (p - least, -d), .bool (!Ra.less (p - least, -d) (p - most, -d))]) (by simp [results, Try.results42, go_sem, y0, y1, z0, z1]) rfl ⟨by rw [HRB.out], HMW.out⟩
        | false =>
          rw [hb2] at HRBX
          clear hb2
          simp only [Bool.false_eq_true, if_false] at HRBX
          have HRB := hid_ HRBX.out
          clear HRBX y0 y1 y2 y3 yl t0 t1 tl
          obtain ⟨W9, hW9⟩ : ∃ W9, W9 = w2 := ⟨_, rfl⟩
          rw [← hW9] at G0 G1 G2 G3 HM9 ⊢
          clear hW9
          go_wp2_with fail
          refine wp_region_stepsL [raV (p - most, -d), raV high, raV high, raV (p - most, -d), .bool (Ra.less high (p - most, -d)), .bool (!Ra.less high (p - most, -d)), undef, undef, .bool (!Ra.less high (p - most, -d))] (Sto2 W9 (n + 1 + 1) (n + 1 + 1 + 1) 53 (.int .i64 0) (.int .i64 0) (.int .i64 (p - most, -d).1) (.int .i64 (p - most, -d).2) 6 (.int .i64 0) (.int .i64 0) (.int .i64 high.1) (.int .i64 high.2) 7) (by kernel_rfl) (by kernel_rfl)
            (by simp only [putAll, Act.put, List.setIfInBounds_toArray, List.set_cons_zero, List.set_cons_succ]; rfl) (⟨(Mod.refl _ _).drew, G2.out, G3.out⟩) ?_ ?_
          · refine ⟨?_, ?_, ?_, ?_, ?_, ?_, ?_, ?_, ?_, trivial⟩
            · intro L w' hun hw hC
              refine step_yes rfl ?_
              have HC := hid_ hC
              obtain ⟨x0, x1, -, -, xl⟩ := (HC.out.base.bk G0.out (show ¬ (n = n + 1 + 1 ∨ n = n + 1 + 1 + 1) by omega)).two
              clear hun hw hC
              go_simp
              exact still rfl (HC.out.skip (n := 0) (by decide) (by decide) (Mod.refl _ _))
            · intro L w' hun hw hC
              refine step_yes rfl ?_
              have HC := hid_ hC
              obtain ⟨x0, x1, -, -, xl⟩ := (HC.out.base.bk G1.out (show ¬ (n + 1 = n + 1 + 1 ∨ n + 1 = n + 1 + 1 + 1) by omega)).two
              clear hun hw hC
              go_simp
              exact still rfl (HC.out.skip (n := 1) (by decide) (by decide) (Mod.refl _ _))
            · intro L w' hun hw hC
              refine step_yes rfl ?_
              have HC := hid_ hC
              obtain ⟨x0, x1, -, -, xl⟩ := (HC.out.base.bk G1.out (show ¬ (n + 1 = n + 1 + 1 ∨ n + 1 = n + 1 + 1 + 1) by omega)).two
              clear hun hw hC
              go_simp
              exact still rfl (HC.out.skip (n := 2) (by decide) (by decide) (Mod.refl _ _))
            · intro L w' hun hw hC
              refine step_yes rfl ?_
              have HC := hid_ hC
              obtain ⟨x0, x1, -, -, xl⟩ := (HC.out.base.bk G0.out (show ¬ (n = n + 1 + 1 ∨ n = n + 1 + 1 + 1) by omega)).two
              clear hun hw hC
              go_simp
              exact still rfl (HC.out.skip (n := 3) (by decide) (by decide) (Mod.refl _ _))
            · intro L w' hun hw hC
              refine step_yes rfl ?_
              have HC := hid_ hC
              clear hun hw hC
              go_simp
              refine (rless_any high (p - most, -d) _ HHIGH.out HFOK.out).mono ?_
              rintro e w3 ⟨rfl, hm⟩
              exact still rfl (HC.out.skip (n := 4) (by decide) (by decide) hm)
            · intro L w' hun hw hC
              refine step_yes rfl ?_
              have HC := hid_ hC
              clear hun hw hC
              go_simp
              exact still rfl (HC.out.skip (n := 5) (by decide) (by decide) (Mod.refl _ _))
            · intro L w' hun hw hC
              refine step_yes rfl ?_
              have HC := hid_ hC
              have HU := hid_ hun
              obtain ⟨y0, y1, y2, y3, yl⟩ := (show Bk w' (n + 1 + 1) 53 [.int .i64 0, .int .i64 0] from by have := hC.one; rw [getD_un hun] at this; exact this).two
              clear hun hw hC
              go_simp
              exact still rfl (HC.out.put1 (by decide) (by omega) HU.out)
            · intro L w' hun hw hC
              refine step_yes rfl ?_
              have HC := hid_ hC
              have HU := hid_ hun
              obtain ⟨y0, y1, y2, y3, yl⟩ := (show Bk w' (n + 1 + 1 + 1) 53 [.int .i64 0, .int .i64 0] from by have := hC.two; rw [getD_un hun] at this; exact this).two
              clear hun hw hC
              go_simp
              exact still rfl (HC.out.put2 (by decide) (by omega) HU.out)
            · intro L w' hun hw hC
              refine step_yes rfl ?_
              have HC := hid_ hC
              clear hun hw hC
              go_simp
              exact still rfl (HC.out.skip (n := 8) (by decide) (by decide) (Mod.refl _ _))
          · intro L w' hall hC
            have hb := hC.one
            have hc := hC.two
            rw [if_pos (hall 6 (by decide))] at hb
            rw [if_pos (hall 7 (by decide))] at hc
            obtain ⟨y0, y1, y2, y3, yl⟩ := hb.two
            obtain ⟨z0, z1, z2, z3, zl⟩ := hc.two
            have HMW := hid_ (HM9.out.trans hC.base (fun i hi e => by have := HNN.out; omega))
            clear hC hall
            go_wp2_with fail
            exact bodyPost_ret (v := .tuple #[raV (p - most, -d), raV high, .bool (!Ra.less high (p - most, -d))]) (by simp [results, Try.results42, go_sem, y0, y1, z0, z1]) rfl ⟨by rw [HRB.out], HMW.out⟩
      | false =>
        rw [hb1] at HRBX
        clear hb1
        simp only [Bool.false_eq_true, if_false] at HRBX
        have K0 := hid_ H01.out
        have K1 := hid_ H11.out
        have K2 := hid_ H21.out
        have K3 := hid_ H31.out
        have K5 := hid_ H51.out
        have KM := hid_ HM1.out
        clear H01 H11 H21 H31 H41 H51 HM1
        go_wp2_with fail
        refine (rless_any (p - least, -d) high _ HTOK.out HHIGH.out).mono ?_
        rintro e w2 ⟨rfl, hm2⟩
        have G0 := hid_ (hm2.bk K0.out id)
        have G1 := hid_ (hm2.bk K1.out id)
        have G2 := hid_ (hm2.bk K2.out id)
        have G3 := hid_ (hm2.bk K3.out id)
        have G5 := hid_ (hm2.bk K5.out id)
        have HM9 := hid_ (KM.out.trans hm2 (fun _ _ h => h))
        clear hm2 K0 K1 K2 K3 K5 KM x0 x1 x2 x3 xl y0 y1 yl z0 z1 zl t0 t1 tl
        obtain ⟨y0, y1, y2, y3, yl⟩ := G1.out.two
        obtain ⟨t0, t1, -, -, tl⟩ := G5.out.two
        cases hb2 : Ra.less (p - least, -d) high with
        | true =>
          rw [hb2] at HRBX
          clear hb2
          simp only [if_true] at HRBX
          have HRB := hid_ HRBX.out
          clear HRBX
          go_wp2_with fail
          obtain ⟨W9, hW9⟩ : ∃ W9, W9 = (w2.setCell ⟨n + 1, 0, none⟩ (.int .i64 (p - least, -d).1)).setCell ⟨n + 1, 1, none⟩ (.int .i64 (p - least, -d).2) := ⟨_, rfl⟩
          have G0 := hid_ (show Bk W9 n 53 _ from by rw [hW9]; exact (G0.out.far (by show n ≠ n + 1; omega) _).far (by show n ≠ n + 1; omega) _)
          have G2 := hid_ (show Bk W9 (n + 1 + 1) 53 _ from by rw [hW9]; exact (G2.out.far (by show n + 1 + 1 ≠ n + 1; omega) _).far (by show n + 1 + 1 ≠ n + 1; omega) _)
          have G3 := hid_ (show Bk W9 (n + 1 + 1 + 1) 53 _ from by rw [hW9]; exact (G3.out.far (by show n + 1 + 1 + 1 ≠ n + 1; omega) _).far (by show n + 1 + 1 + 1 ≠ n + 1; omega) _)
          have G1 := hid_ (show Bk W9 (n + 1) 53 [.int .i64 (p - least, -d).1, .int .i64 (p - least, -d).2] from by rw [hW9]; exact (G1.out.set 0 _).set 1 _)
          have HM9 := hid_ (show Mod Nothing w W9 from by rw [hW9]; exact (HM9.out.setNew (p := ⟨n + 1, 0, none⟩) (by have := HNN.out; show w.heap.size ≤ n + 1; omega) _).setNew (p := ⟨n + 1, 1, none⟩) (by have := HNN.out; show w.heap.size ≤ n + 1; omega) _)
          clear y0 y1 y2 y3 yl t0 t1 tl
          simp only at hW9
          rw [← hW9]
          clear hW9
          refine wp_region_stepsL [raV low, raV (p - least, -d), raV (p - least, -d), raV low, .bool (Ra.less (p - least, -d) low), .bool (!Ra.less (p - least, -d) low), undef, undef, .bool (!Ra.less (p - least, -d) low)] (Sto2 W9 (n + 1 + 1) (n + 1 + 1 + 1) 53 (.int .i64 0) (.int .i64 0) (.int .i64 low.1) (.int .i64 low.2) 6 (.int .i64 0) (.int .i64 0) (.int .i64 (p - least, -d).1) (.int .i64 (p - least, -d).2) 7) (by kernel_rfl) (by kernel_rfl)
            (by simp only [putAll, Act.put, List.setIfInBounds_toArray, List.set_cons_zero, List.set_cons_succ]; rfl) (⟨(Mod.refl _ _).drew, G2.out, G3.out⟩) ?_ ?_
          · refine ⟨?_, ?_, ?_, ?_, ?_, ?_, ?_, ?_, ?_, trivial⟩
            · intro L w' hun hw hC
              refine step_yes rfl ?_
              have HC := hid_ hC
              obtain ⟨x0, x1, -, -, xl⟩ := (HC.out.base.bk G0.out (show ¬ (n = n + 1 + 1 ∨ n = n + 1 + 1 + 1) by omega)).two
              clear hun hw hC
              go_simp
              exact still rfl (HC.out.skip (n := 0) (by decide) (by decide) (Mod.refl _ _))
            · intro L w' hun hw hC
              refine step_yes rfl ?_
              have HC := hid_ hC
              obtain ⟨x0, x1, -, -, xl⟩ := (HC.out.base.bk G1.out (show ¬ (n + 1 = n + 1 + 1 ∨ n + 1 = n + 1 + 1 + 1) by omega)).two
              clear hun hw hC
              go_simp
              exact still rfl (HC.out.skip (n := 1) (by decide) (by decide) (Mod.refl _ _))
            · intro L w' hun hw hC
              refine step_yes rfl ?_
              have HC := hid_ hC
              obtain ⟨x0, x1, -, -, xl⟩ := (HC.out.base.bk G1.out (show ¬ (n + 1 = n + 1 + 1 ∨ n + 1 = n + 1 + 1 + 1) by omega)).two
              clear hun hw hC
              go_simp
              exact still rfl (HC.out.skip (n := 2) (by decide) (by decide) (Mod.refl _ _))
            · intro L w' hun hw hC
              refine step_yes rfl ?_
              have HC := hid_ hC
              obtain ⟨x0, x1, -, -, xl⟩ := (HC.out.base.bk G0.out (show ¬ (n = n + 1 + 1 ∨ n = n + 1 + 1 + 1) by omega)).two
              clear hun hw hC
              go_simp
              exact still rfl (HC.out.skip (n := 3) (by decide) (by decide) (Mod.refl _ _))
            · intro L w' hun hw hC
              refine step_yes rfl ?_
              have HC := hid_ hC
              clear hun hw hC
              go_simp
              refine (rless_any (p - least, -d) low _ HTOK.out HLOW.out).mono ?_
              rintro e w3 ⟨rfl, hm⟩
              exact still rfl (HC.out.skip (n := 4) (by decide) (by decide) hm)
            · intro L w' hun hw hC
              refine step_yes rfl ?_
              have HC := hid_ hC
              clear hun hw hC
              go_simp
              exact still rfl (HC.out.skip (n := 5) (by decide) (by decide) (Mod.refl _ _))
            · intro L w' hun hw hC
              refine step_yes rfl ?_
              have HC := hid_ hC
              have HU := hid_ hun
              obtain ⟨y0, y1, y2, y3, yl⟩ := (show Bk w' (n + 1 + 1) 53 [.int .i64 0, .int .i64 0] from by have := hC.one; rw [getD_un hun] at this; exact this).two
              clear hun hw hC
              go_simp
              exact still rfl (HC.out.put1 (by decide) (by omega) HU.out)
            · intro L w' hun hw hC
              refine step_yes rfl ?_
              have HC := hid_ hC
              have HU := hid_ hun
              obtain ⟨y0, y1, y2, y3, yl⟩ := (show Bk w' (n + 1 + 1 + 1) 53 [.int .i64 0, .int .i64 0] from by have := hC.two; rw [getD_un hun] at this; exact this).two
              clear hun hw hC
              go_simp
              exact still rfl (HC.out.put2 (by decide) (by omega) HU.out)
            · intro L w' hun hw hC
              refine step_yes rfl ?_
              have HC := hid_ hC
              clear hun hw hC
              go_simp
              exact still rfl (HC.out.skip (n := 8) (by decide) (by decide) (Mod.refl _ _))
          · intro L w' hall hC
            have hb := hC.one
            have hc := hC.two
            rw [if_pos (hall 6 (by decide))] at hb
            rw [if_pos (hall 7 (by decide))] at hc
            obtain ⟨y0, y1, y2, y3, yl⟩ := hb.two
            obtain ⟨z0, z1, z2, z3, zl⟩ := hc.two
            have HMW := hid_ (HM9.out.trans hC.base (fun i hi e => by have := HNN.out; omega))
            clear hC hall
            go_wp2_with fail
            exact bodyPost_ret (v := .tuple #[raV low, raV (p - least, -d), .bool (!Ra.less (p - least, -d) low)]) (by simp [results, Try.results42, go_sem, y0, y1, z0, z1]) rfl ⟨by rw [HRB.out], HMW.out⟩
        | false =>
          rw [hb2] at HRBX
          clear hb2
          simp only [Bool.false_eq_true, if_false] at HRBX
          have HRB := hid_ HRBX.out
          clear HRBX y0 y1 y2 y3 yl t0 t1 tl
          obtain ⟨W9, hW9⟩ : ∃ W9, W9 = w2 := ⟨_, rfl⟩
          rw [← hW9] at G0 G1 G2 G3 HM9 ⊢
          clear hW9
          go_wp2_with fail
          refine wp_region_stepsL [raV low, raV high, raV high, raV low, .bool (Ra.less high low), .bool (!Ra.less high low), undef, undef, .bool (!Ra.less high low)] (Sto2 W9 (n + 1 + 1) (n + 1 + 1 + 1) 53 (.int .i64 0) (.int .i64 0) (.int .i64 low.1) (.int .i64 low.2) 6 (.int .i64 0) (.int .i64 0) (.int .i64 high.1) (.int .i64 high.2) 7) (by kernel_rfl) (by kernel_rfl)
            (by simp only [putAll, Act.put, List.setIfInBounds_toArray, List.set_cons_zero, List.set_cons_succ]; rfl) (⟨(Mod.refl _ _).drew, G2.out, G3.out⟩) ?_ ?_
          · refine ⟨?_, ?_, ?_, ?_, ?_, ?_, ?_, ?_, ?_, trivial⟩
            · intro L w' hun hw hC
              refine step_yes rfl ?_
              have HC := hid_ hC
              obtain ⟨x0, x1, -, -, xl⟩ := (HC.out.base.bk G0.out (show ¬ (n = n + 1 + 1 ∨ n = n + 1 + 1 + 1) by omega)).two
              clear hun hw hC
              go_simp
              exact still rfl (HC.out.skip (n := 0) (by decide) (by decide) (Mod.refl _ _))
            · intro L w' hun hw hC
              refine step_yes rfl ?_
              have HC := hid_ hC
              obtain ⟨x0, x1, -, -, xl⟩ := (HC.out.base.bk G1.out (show ¬ (n + 1 = n + 1 + 1 ∨ n + 1 = n + 1 + 1 + 1) by omega)).two
              clear hun hw hC
              go_simp
              exact still rfl (HC.out.skip (n := 1) (by decide) (by decide) (Mod.refl _ _))
            · intro L w' hun hw hC
              refine step_yes rfl ?_
              have HC := hid_ hC
              obtain ⟨x0, x1, -, -, xl⟩ := (HC.out.base.bk G1.out (show ¬ (n + 1 = n + 1 + 1 ∨ n + 1 = n + 1 + 1 + 1) by omega)).two
              clear hun hw hC
              go_simp
              exact still rfl (HC.out.skip (n := 2) (by decide) (by decide) (Mod.refl _ _))
            · intro L w' hun hw hC
              refine step_yes rfl ?_
              have HC := hid_ hC
              obtain ⟨x0, x1, -, -, xl⟩ := (HC.out.base.bk G0.out (show ¬ (n = n + 1 + 1 ∨ n = n + 1 + 1 + 1) by omega)).two
              clear hun hw hC
              go_simp
              exact still rfl (HC.out.skip (n := 3) (by decide) (by decide) (Mod.refl _ _))
            · intro L w' hun hw hC
              refine step_yes rfl ?_
              have HC := hid_ hC
              clear hun hw hC
              go_simp
              refine (rless_any high low _ HHIGH.out HLOW.out).mono ?_
              rintro e w3 ⟨rfl, hm⟩
              exact still rfl (HC.out.skip (n := 4) (by decide) (by decide) hm)
            · intro L w' hun hw hC
              refine step_yes rfl ?_
              have HC := hid_ hC
              clear hun hw hC
              go_simp
              exact still rfl (HC.out.skip (n := 5) (by decide) (by decide) (Mod.refl _ _))
            · intro L w' hun hw hC
              refine step_yes rfl ?_
              have HC := hid_ hC
              have HU := hid_ hun
              obtain ⟨y0, y1, y2, y3, yl⟩ := (show Bk w' (n + 1 + 1) 53 [.int .i64 0, .int .i64 0] from by have := hC.one; rw [getD_un hun] at this; exact this).two
              clear hun hw hC
              go_simp
              exact still rfl (HC.out.put1 (by decide) (by omega) HU.out)
            · intro L w' hun hw hC
              refine step_yes rfl ?_
              have HC := hid_ hC
              have HU := hid_ hun
              obtain ⟨y0, y1, y2, y3, yl⟩ := (show Bk w' (n + 1 + 1 + 1) 53 [.int .i64 0, .int .i64 0] from by have := hC.two; rw [getD_un hun] at this; exact this).two
              clear hun hw hC
              go_simp
              exact still rfl (HC.out.put2 (by decide) (by omega) HU.out)
            · intro L w' hun hw hC
              refine step_yes rfl ?_
              have HC := hid_ hC
              clear hun hw hC
              go_simp
              exact still rfl (HC.out.skip (n := 8) (by decide) (by decide) (Mod.refl _ _))
          · intro L w' hall hC
            have hb := hC.one
            have hc := hC.two
            rw [if_pos (hall 6 (by decide))] at hb
            rw [if_pos (hall 7 (by decide))] at hc
            obtain ⟨y0, y1, y2, y3, yl⟩ := hb.two
            obtain ⟨z0, z1, z2, z3, zl⟩ := hc.two
            have HMW := hid_ (HM9.out.trans hC.base (fun i hi e => by have := HNN.out; omega))
            clear hC hall
            go_wp2_with fail
            exact bodyPost_ret (v := .tuple #[raV low, raV high, .bool (!Ra.less high low)]) (by simp [results, Try.results42, go_sem, y0, y1, z0, z1]) rfl ⟨by rw [HRB.out], HMW.out⟩
    · have HNEG := hid_ hneg
      have HFOK := hid_ (show RaOk (least - p, d) from ⟨by omega, by omega, by omega, by omega⟩)
      have HTOK := hid_ (show RaOk (most - p, d) from ⟨by omega, by omega, by omega, by omega⟩)
      have HRBX := hid_ (show rBound p d least most low high = ((if Ra.less low (least - p, d) then (least - p, d) else low), (if Ra.less (most - p, d) high then (most - p, d) else high), !(Ra.less (if Ra.less (most - p, d) high then (most - p, d) else high) (if Ra.less low (least - p, d) then (least - p, d) else low))) by unfold rBound rFrom rTo; rw [if_neg HD0.out, if_neg HNEG.out, if_neg HNEG.out])
      obtain ⟨b0, b1, b2, b3, b4, b5, hsz, hmod⟩ := six_ w 53 53 53 53 53 53 [.int .i64 low.1, .int .i64 low.2] [.int .i64 high.1, .int .i64 high.2] [.int .i64 0, .int .i64 0] [.int .i64 0, .int .i64 0] [.int .i64 (least - p), .int .i64 d] [.int .i64 (most - p), .int .i64 d]
      obtain ⟨W, hW⟩ : ∃ W, W = (((((w.alloc (.cells #[.int .i64 low.1, .int .i64 low.2] 53)).alloc (.cells #[.int .i64 high.1, .int .i64 high.2] 53)).alloc (.cells #[.int .i64 0, .int .i64 0] 53)).alloc (.cells #[.int .i64 0, .int .i64 0] 53)).alloc (.cells #[.int .i64 (least - p), .int .i64 (d)] 53)).alloc (.cells #[.int .i64 (most - p), .int .i64 (d)] 53) := ⟨_, rfl⟩
      rw [← hW] at b0 b1 b2 b3 b4 b5 hsz hmod
      rw [← hn] at b0 b1 b2 b3 b4 b5 hsz
      have H0 := hid_ b0
      have H1 := hid_ b1
      have H2 := hid_ b2
      have H3 := hid_ b3
      have H4 := hid_ b4
      have H5 := hid_ b5
      have HM := hid_ hmod
      clear b0 b1 b2 b3 b4 b5 hmod
      go_enter Try.func42, Try.ntmps42
      go_wp2_with fail
      rw [← hW]
      simp only [← hn]
      clear hW hn hsz
      refine (rless_any low (least - p, d) _ HLOW.out HFOK.out).mono ?_
      rintro e w1 ⟨rfl, hm1⟩
      have HM1 := hid_ (HM.out.trans hm1 (fun _ _ h => h))
      have H01 := hid_ (hm1.bk H0.out id)
      have H11 := hid_ (hm1.bk H1.out id)
      have H21 := hid_ (hm1.bk H2.out id)
      have H31 := hid_ (hm1.bk H3.out id)
      have H41 := hid_ (hm1.bk H4.out id)
      have H51 := hid_ (hm1.bk H5.out id)
      clear hm1 H0 H1 H2 H3 H4 H5 HM
      obtain ⟨x0, x1, x2, x3, xl⟩ := H01.out.two
      obtain ⟨y0, y1, -, -, yl⟩ := H11.out.two
      obtain ⟨z0, z1, -, -, zl⟩ := H41.out.two
      obtain ⟨t0, t1, -, -, tl⟩ := H51.out.two
      cases hb1 : Ra.less low (least - p, d) with
      | true =>
        rw [hb1] at HRBX
        clear hb1
        simp only [if_true] at HRBX
        have K0 := hid_ (show Bk ((w1.setCell ⟨n, 0, none⟩ (.int .i64 (least - p, d).1)).setCell ⟨n, 1, none⟩ (.int .i64 (least - p, d).2)) n 53 [.int .i64 (least - p, d).1, .int .i64 (least - p, d).2] from (H01.out.set 0 _).set 1 _)
        have K1 := hid_ (show Bk ((w1.setCell ⟨n, 0, none⟩ (.int .i64 (least - p, d).1)).setCell ⟨n, 1, none⟩ (.int .i64 (least - p, d).2)) (n + 1) 53 _ from (H11.out.far (by show n + 1 ≠ n; omega) _).far (by show n + 1 ≠ n; omega) _)
        have K2 := hid_ (show Bk ((w1.setCell ⟨n, 0, none⟩ (.int .i64 (least - p, d).1)).setCell ⟨n, 1, none⟩ (.int .i64 (least - p, d).2)) (n + 1 + 1) 53 _ from (H21.out.far (by show n + 1 + 1 ≠ n; omega) _).far (by show n + 1 + 1 ≠ n; omega) _)
        have K3 := hid_ (show Bk ((w1.setCell ⟨n, 0, none⟩ (.int .i64 (least - p, d).1)).setCell ⟨n, 1, none⟩ (.int .i64 (least - p, d).2)) (n + 1 + 1 + 1) 53 _ from (H31.out.far (by show n + 1 + 1 + 1 ≠ n; omega) _).far (by show n + 1 + 1 + 1 ≠ n; omega) _)
        have K5 := hid_ (show Bk ((w1.setCell ⟨n, 0, none⟩ (.int .i64 (least - p, d).1)).setCell ⟨n, 1, none⟩ (.int .i64 (least - p, d).2)) (n + 1 + 1 + 1 + 1 + 1) 53 _ from (H51.out.far (by show n + 1 + 1 + 1 + 1 + 1 ≠ n; omega) _).far (by show n + 1 + 1 + 1 + 1 + 1 ≠ n; omega) _)
        have KM := hid_ (show Mod Nothing w ((w1.setCell ⟨n, 0, none⟩ (.int .i64 (least - p, d).1)).setCell ⟨n, 1, none⟩ (.int .i64 (least - p, d).2)) from (HM1.out.setNew (p := ⟨n, 0, none⟩) (by have := HNN.out; show w.heap.size ≤ n; omega) _).setNew (p := ⟨n, 1, none⟩) (by have := HNN.out; show w.heap.size ≤ n; omega) _)
        clear H01 H11 H21 H31 H41 H51 HM1
        go_wp2_with fail
        refine (rless_any (most - p, d) high _ HTOK.out HHIGH.out).mono ?_
        rintro e w2 ⟨rfl, hm2⟩
        have G0 := hid_ (hm2.bk K0.out id)
        have G1 := hid_ (hm2.bk K1.out id)
        have G2 := hid_ (hm2.bk K2.out id)
        have G3 := hid_ (hm2.bk K3.out id)
        have G5 := hid_ (hm2.bk K5.out id)
        have HM9 := hid_ (KM.out.trans hm2 (fun _ _ h => h))
        clear hm2 K0 K1 K2 K3 K5 KM x0 x1 x2 x3 xl y0 y1 yl z0 z1 zl t0 t1 tl
        obtain ⟨y0, y1, y2, y3, yl⟩ := G1.out.two
        obtain ⟨t0, t1, -, -, tl⟩ := G5.out.two
        cases hb2 : Ra.less (most - p, d) high with
        | true =>
          rw [hb2] at HRBX
          clear hb2
          simp only [if_true] at HRBX
          have HRB := hid_ HRBX.out
          clear HRBX
          go_wp2_with fail
          obtain ⟨W9, hW9⟩ : ∃ W9, W9 = (w2.setCell ⟨n + 1, 0, none⟩ (.int .i64 (most - p, d).1)).setCell ⟨n + 1, 1, none⟩ (.int .i64 (most - p, d).2) := ⟨_, rfl⟩
          have G0 := hid_ (show Bk W9 n 53 _ from by rw [hW9]; exact (G0.out.far (by show n ≠ n + 1; omega) _).far (by show n ≠ n + 1; omega) _)
          have G2 := hid_ (show Bk W9 (n + 1 + 1) 53 _ from by rw [hW9]; exact (G2.out.far (by show n + 1 + 1 ≠ n + 1; omega) _).far (by show n + 1 + 1 ≠ n + 1; omega) _)
          have G3 := hid_ (show Bk W9 (n + 1 + 1 + 1) 53 _ from by rw [hW9]; exact (G3.out.far (by show n + 1 + 1 + 1 ≠ n + 1; omega) _).far (by show n + 1 + 1 + 1 ≠ n + 1; omega) _)
          have G1 := hid_ (show Bk W9 (n + 1) 53 [.int .i64 (most - p, d).1, .int .i64 (most - p, d).2] from by rw [hW9]; exact (G1.out.set 0 _).set 1 _)
          have HM9 := hid_ (show Mod Nothing w W9 from by rw [hW9]; exact (HM9.out.setNew (p := ⟨n + 1, 0, none⟩) (by have := HNN.out; show w.heap.size ≤ n + 1; omega) _).setNew (p := ⟨n + 1, 1, none⟩) (by have := HNN.out; show w.heap.size ≤ n + 1; omega) _)
          clear y0 y1 y2 y3 yl t0 t1 tl
          simp only at hW9
          rw [← hW9]
          clear hW9
          refine wp_region_stepsL [raV (least - p, d), raV (most - p, d), raV (most - p, d), raV (least - p, d), .bool (Ra.less (most - p, d) (least - p, d)), .bool (!Ra.less (most - p, d) (least - p, d)), undef, undef, .bool (!Ra.less (most - p, d) (least - p, d))] (Sto2 W9 (n + 1 + 1) (n + 1 + 1 + 1) 53 (.int .i64 0) (.int .i64 0) (.int .i64 (least - p, d).1) (.int .i64 (least - p, d).2) 6 (.int .i64 0) (.int .i64 0) (.int .i64 (most - p, d).1) (.int .i64 (most - p, d).2) 7) (by kernel_rfl) (by kernel_rfl)
            (by simp only [putAll, Act.put, List.setIfInBounds_toArray, List.set_cons_zero, List.set_cons_succ]; rfl) (⟨(Mod.refl _ _).drew, G2.out, G3.out⟩) ?_ ?_
          · refine ⟨?_, ?_, ?_, ?_, ?_, ?_, ?_, ?_, ?_, trivial⟩
            · intro L w' hun hw hC
              refine step_yes rfl ?_
              have HC := hid_ hC
              obtain ⟨x0, x1, -, -, xl⟩ := (HC.out.base.bk G0.out (show ¬ (n = n + 1 + 1 ∨ n = n + 1 + 1 + 1) by omega)).two
              clear hun hw hC
              go_simp
              exact still rfl (HC.out.skip (n := 0) (by decide) (by decide) (Mod.refl _ _))
            · intro L w' hun hw hC
              refine step_yes rfl ?_
              have HC := hid_ hC
              obtain ⟨x0, x1, -, -, xl⟩ := (HC.out.base.bk G1.out (show ¬ (n + 1 = n + 1 + 1 ∨ n + 1 = n + 1 + 1 + 1) by omega)).two
              clear hun hw hC
              go_simp
              exact still rfl (HC.out.skip (n := 1) (by decide) (by decide) (Mod.refl _ _))
            · intro L w' hun hw hC
              refine step_yes rfl ?_
              have HC := hid_ hC
              obtain ⟨x0, x1, -, -, xl⟩ := (HC.out.base.bk G1.out (show ¬ (n + 1 = n + 1 + 1 ∨ n + 1 = n + 1 + 1 + 1) by omega)).two
              clear hun hw hC
              go_simp
              exact still rfl (HC.out.skip (n := 2) (by decide) (by decide) (Mod.refl _ _))
            · intro L w' hun hw hC
              refine step_yes rfl ?_
              have HC := hid_ hC
              obtain ⟨x0, x1, -, -, xl⟩ := (HC.out.base.bk G0.out (show ¬ (n = n + 1 + 1 ∨ n = n + 1 + 1 + 1) by omega)).two
              clear hun hw hC
              go_simp
              exact still rfl (HC.out.skip (n := 3) (by decide) (by decide) (Mod.refl _ _))
            · intro L w' hun hw hC
              refine step_yes rfl ?_
              have HC := hid_ hC
              clear hun hw hC
              go_simp
              refine (rless_any (most - p, d) (least - p, d) _ HTOK.out HFOK.out).mono ?_
              rintro e w3 ⟨rfl, hm⟩
              exact still rfl (HC.out.skip (n := 4) (by decide) (by decide) hm)
            · intro L w' hun hw hC
              refine step_yes rfl ?_
              have HC := hid_ hC
              clear hun hw hC
              go_simp
              exact still rfl (HC.out.skip (n := 5) (by decide) (by decide) (Mod.refl _ _))
            · intro L w' hun hw hC
              refine step_yes rfl ?_
              have HC := hid_ hC
              have HU := hid_ hun
              obtain ⟨y0, y1, y2, y3, yl⟩ := (show Bk w' (n + 1 + 1) 53 [.int .i64 0, .int .i64 0] from by have := hC.one; rw [getD_un hun] at this; exact this).two
              clear hun hw hC
              go_simp
              exact still rfl (HC.out.put1 (by decide) (by omega) HU.out)
            · intro L w' hun hw hC
              refine step_yes rfl ?_
              have HC := hid_ hC
              have HU := hid_ hun
              obtain ⟨y0, y1, y2, y3, yl⟩ := (show Bk w' (n + 1 + 1 + 1) 53 [.int .i64 0, .int .i64 0] from by have := hC.two; rw [getD_un hun] at this; exact this).two
              clear hun hw hC
              go_simp
              exact still rfl (HC.out.put2 (by decide) (by omega) HU.out)
            · intro L w' hun hw hC
              refine step_yes rfl ?_
              have HC := hid_ hC
              clear hun hw hC
              go_simp
              exact still rfl (HC.out.skip (n := 8) (by decide) (by decide) (Mod.refl _ _))
          · intro L w' hall hC
            have hb := hC.one
            have hc := hC.two
            rw [if_pos (hall 6 (by decide))] at hb
            rw [if_pos (hall 7 (by decide))] at hc
            obtain ⟨y0, y1, y2, y3, yl⟩ := hb.two
            obtain ⟨z0, z1, z2, z3, zl⟩ := hc.two
            have HMW := hid_ (HM9.out.trans hC.base (fun i hi e => by have := HNN.out; omega))
            clear hC hall
            go_wp2_with fail
            exact bodyPost_ret (v := .tuple #[raV (least - p, d), raV (most - p, d), .bool (!Ra.less (most - p, d) (least - p, d))]) (by simp [results, Try.results42, go_sem, y0, y1, z0, z1]) rfl ⟨by rw [HRB.out], HMW.out⟩
        | false =>
          rw [hb2] at HRBX
          clear hb2
          simp only [Bool.false_eq_true, if_false] at HRBX
          have HRB := hid_ HRBX.out
          clear HRBX y0 y1 y2 y3 yl t0 t1 tl
          obtain ⟨W9, hW9⟩ : ∃ W9, W9 = w2 := ⟨_, rfl⟩
          rw [← hW9] at G0 G1 G2 G3 HM9 ⊢
          clear hW9
          go_wp2_with fail
          refine wp_region_stepsL [raV (least - p, d), raV high, raV high, raV (least - p, d), .bool (Ra.less high (least - p, d)), .bool (!Ra.less high (least - p, d)), undef, undef, .bool (!Ra.less high (least - p, d))] (Sto2 W9 (n + 1 + 1) (n + 1 + 1 + 1) 53 (.int .i64 0) (.int .i64 0) (.int .i64 (least - p, d).1) (.int .i64 (least - p, d).2) 6 (.int .i64 0) (.int .i64 0) (.int .i64 high.1) (.int .i64 high.2) 7) (by kernel_rfl) (by kernel_rfl)
            (by simp only [putAll, Act.put, List.setIfInBounds_toArray, List.set_cons_zero, List.set_cons_succ]; rfl) (⟨(Mod.refl _ _).drew, G2.out, G3.out⟩) ?_ ?_
          · refine ⟨?_, ?_, ?_, ?_, ?_, ?_, ?_, ?_, ?_, trivial⟩
            · intro L w' hun hw hC
              refine step_yes rfl ?_
              have HC := hid_ hC
              obtain ⟨x0, x1, -, -, xl⟩ := (HC.out.base.bk G0.out (show ¬ (n = n + 1 + 1 ∨ n = n + 1 + 1 + 1) by omega)).two
              clear hun hw hC
              go_simp
              exact still rfl (HC.out.skip (n := 0) (by decide) (by decide) (Mod.refl _ _))
            · intro L w' hun hw hC
              refine step_yes rfl ?_
              have HC := hid_ hC
              obtain ⟨x0, x1, -, -, xl⟩ := (HC.out.base.bk G1.out (show ¬ (n + 1 = n + 1 + 1 ∨ n + 1 = n + 1 + 1 + 1) by omega)).two
              clear hun hw hC
              go_simp
              exact still rfl (HC.out.skip (n := 1) (by decide) (by decide) (Mod.refl _ _))
            · intro L w' hun hw hC
              refine step_yes rfl ?_
              have HC := hid_ hC
              obtain ⟨x0, x1, -, -, xl⟩ := (HC.out.base.bk G1.out (show ¬ (n + 1 = n + 1 + 1 ∨ n + 1 = n + 1 + 1 + 1) by omega)).two
              clear hun hw hC
              go_simp
              exact still rfl (HC.out.skip (n := 2) (by decide) (by decide) (Mod.refl _ _))
            · intro L w' hun hw hC
              refine step_yes rfl ?_
              have HC := hid_ hC
              obtain ⟨x0, x1, -, -, xl⟩ := (HC.out.base.bk G0.out (show ¬ (n = n + 1 + 1 ∨ n = n + 1 + 1 + 1) by omega)).two
              clear hun hw hC
              go_simp
              exact still rfl (HC.out.skip (n := 3) (by decide) (by decide) (Mod.refl _ _))
            · intro L w' hun hw hC
              refine step_yes rfl ?_
              have HC := hid_ hC
              clear hun hw hC
              go_simp
              refine (rless_any high (least - p, d) _ HHIGH.out HFOK.out).mono ?_
              rintro e w3 ⟨rfl, hm⟩
              exact still rfl (HC.out.skip (n := 4) (by decide) (by decide) hm)
            · intro L w' hun hw hC
              refine step_yes rfl ?_
              have HC := hid_ hC
              clear hun hw hC
              go_simp
              exact still rfl (HC.out.skip (n := 5) (by decide) (by decide) (Mod.refl _ _))
            · intro L w' hun hw hC
              refine step_yes rfl ?_
              have HC := hid_ hC
              have HU := hid_ hun
              obtain ⟨y0, y1, y2, y3, yl⟩ := (show Bk w' (n + 1 + 1) 53 [.int .i64 0, .int .i64 0] from by have := hC.one; rw [getD_un hun] at this; exact this).two
              clear hun hw hC
              go_simp
              exact still rfl (HC.out.put1 (by decide) (by omega) HU.out)
            · intro L w' hun hw hC
              refine step_yes rfl ?_
              have HC := hid_ hC
              have HU := hid_ hun
              obtain ⟨y0, y1, y2, y3, yl⟩ := (show Bk w' (n + 1 + 1 + 1) 53 [.int .i64 0, .int .i64 0] from by have := hC.two; rw [getD_un hun] at this; exact this).two
              clear hun hw hC
              go_simp
              exact still rfl (HC.out.put2 (by decide) (by omega) HU.out)
            · intro L w' hun hw hC
              refine step_yes rfl ?_
              have HC := hid_ hC
              clear hun hw hC
              go_simp
              exact still rfl (HC.out.skip (n := 8) (by decide) (by decide) (Mod.refl _ _))
          · intro L w' hall hC
            have hb := hC.one
            have hc := hC.two
            rw [if_pos (hall 6 (by decide))] at hb
            rw [if_pos (hall 7 (by decide))] at hc
            obtain ⟨y0, y1, y2, y3, yl⟩ := hb.two
            obtain ⟨z0, z1, z2, z3, zl⟩ := hc.two
            have HMW := hid_ (HM9.out.trans hC.base (fun i hi e => by have := HNN.out; omega))
            clear hC hall
            go_wp2_with fail
            exact bodyPost_ret (v := .tuple #[raV (least - p, d), raV high, .bool (!Ra.less high (least - p, d))]) (by simp [results, Try.results42, go_sem, y0, y1, z0, z1]) rfl ⟨by rw [HRB.out], HMW.out⟩
      | false =>
        rw [hb1] at HRBX
        clear hb1
        simp only [Bool.false_eq_true, if_false] at HRBX
        have K0 := hid_ H01.out
        have K1 := hid_ H11.out
        have K2 := hid_ H21.out
        have K3 := hid_ H31.out
        have K5 := hid_ H51.out
        have KM := hid_ HM1.out
        clear H01 H11 H21 H31 H41 H51 HM1
        go_wp2_with fail
        refine (rless_any (most - p, d) high _ HTOK.out HHIGH.out).mono ?_
        rintro e w2 ⟨rfl, hm2⟩
        have G0 := hid_ (hm2.bk K0.out id)
        have G1 := hid_ (hm2.bk K1.out id)
        have G2 := hid_ (hm2.bk K2.out id)
        have G3 := hid_ (hm2.bk K3.out id)
        have G5 := hid_ (hm2.bk K5.out id)
        have HM9 := hid_ (KM.out.trans hm2 (fun _ _ h => h))
        clear hm2 K0 K1 K2 K3 K5 KM x0 x1 x2 x3 xl y0 y1 yl z0 z1 zl t0 t1 tl
        obtain ⟨y0, y1, y2, y3, yl⟩ := G1.out.two
        obtain ⟨t0, t1, -, -, tl⟩ := G5.out.two
        cases hb2 : Ra.less (most - p, d) high with
        | true =>
          rw [hb2] at HRBX
          clear hb2
          simp only [if_true] at HRBX
          have HRB := hid_ HRBX.out
          clear HRBX
          go_wp2_with fail
          obtain ⟨W9, hW9⟩ : ∃ W9, W9 = (w2.setCell ⟨n + 1, 0, none⟩ (.int .i64 (most - p, d).1)).setCell ⟨n + 1, 1, none⟩ (.int .i64 (most - p, d).2) := ⟨_, rfl⟩
          have G0 := hid_ (show Bk W9 n 53 _ from by rw [hW9]; exact (G0.out.far (by show n ≠ n + 1; omega) _).far (by show n ≠ n + 1; omega) _)
          have G2 := hid_ (show Bk W9 (n + 1 + 1) 53 _ from by rw [hW9]; exact (G2.out.far (by show n + 1 + 1 ≠ n + 1; omega) _).far (by show n + 1 + 1 ≠ n + 1; omega) _)
          have G3 := hid_ (show Bk W9 (n + 1 + 1 + 1) 53 _ from by rw [hW9]; exact (G3.out.far (by show n + 1 + 1 + 1 ≠ n + 1; omega) _).far (by show n + 1 + 1 + 1 ≠ n + 1; omega) _)
          have G1 := hid_ (show Bk W9 (n + 1) 53 [.int .i64 (most - p, d).1, .int .i64 (most - p, d).2] from by rw [hW9]; exact (G1.out.set 0 _).set 1 _)
          have HM9 := hid_ (show Mod Nothing w W9 from by rw [hW9]; exact (HM9.out.setNew (p := ⟨n + 1, 0, none⟩) (by have := HNN.out; show w.heap.size ≤ n + 1; omega) _).setNew (p := ⟨n + 1, 1, none⟩) (by have := HNN.out; show w.heap.size ≤ n + 1; omega) _)
          clear y0 y1 y2 y3 yl t0 t1 tl
          simp only at hW9
          rw [← hW9]
          clear hW9
          refine wp_region_stepsL [raV low, raV (most - p, d), raV (most - p, d), raV low, .bool (Ra.less (most - p, d) low), .bool (!Ra.less (most - p, d) low), undef, undef, .bool (!Ra.less (most - p, d) low)] (Sto2 W9 (n + 1 + 1) (n + 1 + 1 + 1) 53 (.int .i64 0) (.int .i64 0) (.int .i64 low.1) (.int .i64 low.2) 6 (.int .i64 0) (.int .i64 0) (.int .i64 (most - p, d).1) (.int .i64 (most - p, d).2) 7) (by kernel_rfl) (by kernel_rfl)
            (by simp only [putAll, Act.put, List.setIfInBounds_toArray, List.set_cons_zero, List.set_cons_succ]; rfl) (⟨(Mod.refl _ _).drew, G2.out, G3.out⟩) ?_ ?_
          · refine ⟨?_, ?_, ?_, ?_, ?_, ?_, ?_, ?_, ?_, trivial⟩
            · intro L w' hun hw hC
              refine step_yes rfl ?_
              have HC := hid_ hC
              obtain ⟨x0, x1, -, -, xl⟩ := (HC.out.base.bk G0.out (show ¬ (n = n + 1 + 1 ∨ n = n + 1 + 1 + 1) by omega)).two
              clear hun hw hC
              go_simp
              exact still rfl (HC.out.skip (n := 0) (by decide) (by decide) (Mod.refl _ _))
            · intro L w' hun hw hC
              refine step_yes rfl ?_
              have HC := hid_ hC
              obtain ⟨x0, x1, -, -, xl⟩ := (HC.out.base.bk G1.out (show ¬ (n + 1 = n + 1 + 1 ∨ n + 1 = n + 1 + 1 + 1) by omega)).two
              clear hun hw hC
              go_simp
              exact still rfl (HC.out.skip (n := 1) (by decide) (by decide) (Mod.refl _ _))
            · intro L w' hun hw hC
              refine step_yes rfl ?_
              have HC := hid_ hC
              obtain ⟨x0, x1, -, -, xl⟩ := (HC.out.base.bk G1.out (show ¬ (n + 1 = n + 1 + 1 ∨ n + 1 = n + 1 + 1 + 1) by omega)).two
              clear hun hw hC
              go_simp
              exact still rfl (HC.out.skip (n := 2) (by decide) (by decide) (Mod.refl _ _))
            · intro L w' hun hw hC
              refine step_yes rfl ?_
              have HC := hid_ hC
              obtain ⟨x0, x1, -, -, xl⟩ := (HC.out.base.bk G0.out (show ¬ (n = n + 1 + 1 ∨ n = n + 1 + 1 + 1) by omega)).two
              clear hun hw hC
              go_simp
              exact still rfl (HC.out.skip (n := 3) (by decide) (by decide) (Mod.refl _ _))
            · intro L w' hun hw hC
              refine step_yes rfl ?_
              have HC := hid_ hC
              clear hun hw hC
              go_simp
              refine (rless_any (most - p, d) low _ HTOK.out HLOW.out).mono ?_
              rintro e w3 ⟨rfl, hm⟩
              exact still rfl (HC.out.skip (n := 4) (by decide) (by decide) hm)
            · intro L w' hun hw hC
              refine step_yes rfl ?_
              have HC := hid_ hC
              clear hun hw hC
              go_simp
              exact still rfl (HC.out.skip (n := 5) (by decide) (by decide) (Mod.refl _ _))
            · intro L w' hun hw hC
              refine step_yes rfl ?_
              have HC := hid_ hC
              have HU := hid_ hun
              obtain ⟨y0, y1, y2, y3, yl⟩ := (show Bk w' (n + 1 + 1) 53 [.int .i64 0, .int .i64 0] from by have := hC.one; rw [getD_un hun] at this; exact this).two
              clear hun hw hC
              go_simp
              exact still rfl (HC.out.put1 (by decide) (by omega) HU.out)
            · intro L w' hun hw hC
              refine step_yes rfl ?_
              have HC := hid_ hC
              have HU := hid_ hun
              obtain ⟨y0, y1, y2, y3, yl⟩ := (show Bk w' (n + 1 + 1 + 1) 53 [.int .i64 0, .int .i64 0] from by have := hC.two; rw [getD_un hun] at this; exact this).two
              clear hun hw hC
              go_simp
              exact still rfl (HC.out.put2 (by decide) (by omega) HU.out)
            · intro L w' hun hw hC
              refine step_yes rfl ?_
              have HC := hid_ hC
              clear hun hw hC
              go_simp
              exact still rfl (HC.out.skip (n := 8) (by decide) (by decide) (Mod.refl _ _))
          · intro L w' hall hC
            have hb := hC.one
            have hc := hC.two
            rw [if_pos (hall 6 (by decide))] at hb
            rw [if_pos (hall 7 (by decide))] at hc
            obtain ⟨y0, y1, y2, y3, yl⟩ := hb.two
            obtain ⟨z0, z1, z2, z3, zl⟩ := hc.two
            have HMW := hid_ (HM9.out.trans hC.base (fun i hi e => by have := HNN.out; omega))
            clear hC hall
            go_wp2_with fail
            exact bodyPost_ret (v := .tuple #[raV low, raV (most - p, d), .bool (!Ra.less (most - p, d) low)]) (by simp [results, Try.results42, go_sem, y0, y1, z0, z1]) rfl ⟨by rw [HRB.out], HMW.out⟩
        | false =>
          rw [hb2] at HRBX
          clear hb2
          simp only [Bool.false_eq_true, if_false] at HRBX
          have HRB := hid_ HRBX.out
          clear HRBX y0 y1 y2 y3 yl t0 t1 tl
          obtain ⟨W9, hW9⟩ : ∃ W9, W9 = w2 := ⟨_, rfl⟩
          rw [← hW9] at G0 G1 G2 G3 HM9 ⊢
          clear hW9
          go_wp2_with fail
          refine wp_region_stepsL [raV low, raV high, raV high, raV low, .bool (Ra.less high low), .bool (!Ra.less high low), undef, undef, .bool (!Ra.less high low)] (Sto2 W9 (n + 1 + 1) (n + 1 + 1 + 1) 53 (.int .i64 0) (.int .i64 0) (.int .i64 low.1) (.int .i64 low.2) 6 (.int .i64 0) (.int .i64 0) (.int .i64 high.1) (.int .i64 high.2) 7) (by kernel_rfl) (by kernel_rfl)
            (by simp only [putAll, Act.put, List.setIfInBounds_toArray, List.set_cons_zero, List.set_cons_succ]; rfl) (⟨(Mod.refl _ _).drew, G2.out, G3.out⟩) ?_ ?_
          · refine ⟨?_, ?_, ?_, ?_, ?_, ?_, ?_, ?_, ?_, trivial⟩
            · intro L w' hun hw hC
              refine step_yes rfl ?_
              have HC := hid_ hC
              obtain ⟨x0, x1, -, -, xl⟩ := (HC.out.base.bk G0.out (show ¬ (n = n + 1 + 1 ∨ n = n + 1 + 1 + 1) by omega)).two
              clear hun hw hC
              go_simp
              exact still rfl (HC.out.skip (n := 0) (by decide) (by decide) (Mod.refl _ _))
            · intro L w' hun hw hC
              refine step_yes rfl ?_
              have HC := hid_ hC
              obtain ⟨x0, x1, -, -, xl⟩ := (HC.out.base.bk G1.out (show ¬ (n + 1 = n + 1 + 1 ∨ n + 1 = n + 1 + 1 + 1) by omega)).two
              clear hun hw hC
              go_simp
              exact still rfl (HC.out.skip (n := 1) (by decide) (by decide) (Mod.refl _ _))
            · intro L w' hun hw hC
              refine step_yes rfl ?_
              have HC := hid_ hC
              obtain ⟨x0, x1, -, -, xl⟩ := (HC.out.base.bk G1.out (show ¬ (n + 1 = n + 1 + 1 ∨ n + 1 = n + 1 + 1 + 1) by omega)).two
              clear hun hw hC
              go_simp
              exact still rfl (HC.out.skip (n := 2) (by decide) (by decide) (Mod.refl _ _))
            · intro L w' hun hw hC
              refine step_yes rfl ?_
              have HC := hid_ hC
              obtain ⟨x0, x1, -, -, xl⟩ := (HC.out.base.bk G0.out (show ¬ (n = n + 1 + 1 ∨ n = n + 1 + 1 + 1) by omega)).two
              clear hun hw hC
              go_simp
              exact still rfl (HC.out.skip (n := 3) (by decide) (by decide) (Mod.refl _ _))
            · intro L w' hun hw hC
              refine step_yes rfl ?_
              have HC := hid_ hC
              clear hun hw hC
              go_simp
              refine (rless_any high low _ HHIGH.out HLOW.out).mono ?_
              rintro e w3 ⟨rfl, hm⟩
              exact still rfl (HC.out.skip (n := 4) (by decide) (by decide) hm)
            · intro L w' hun hw hC
              refine step_yes rfl ?_
              have HC := hid_ hC
              clear hun hw hC
              go_simp
              exact still rfl (HC.out.skip (n := 5) (by decide) (by decide) (Mod.refl _ _))
            · intro L w' hun hw hC
              refine step_yes rfl ?_
              have HC := hid_ hC
              have HU := hid_ hun
              obtain ⟨y0, y1, y2, y3, yl⟩ := (show Bk w' (n + 1 + 1) 53 [.int .i64 0, .int .i64 0] from by have := hC.one; rw [getD_un hun] at this; exact this).two
              clear hun hw hC
              go_simp
              exact still rfl (HC.out.put1 (by decide) (by omega) HU.out)
            · intro L w' hun hw hC
              refine step_yes rfl ?_
              have HC := hid_ hC
              have HU := hid_ hun
              obtain ⟨y0, y1, y2, y3, yl⟩ := (show Bk w' (n + 1 + 1 + 1) 53 [.int .i64 0, .int .i64 0] from by have := hC.two; rw [getD_un hun] at this; exact this).two
              clear hun hw hC
              go_simp
              exact still rfl (HC.out.put2 (by decide) (by omega) HU.out)
            · intro L w' hun hw hC
              refine step_yes rfl ?_
              have HC := hid_ hC
              clear hun hw hC
              go_simp
              exact still rfl (HC.out.skip (n := 8) (by decide) (by decide) (Mod.refl _ _))
          · intro L w' hall hC
            have hb := hC.one
            have hc := hC.two
            rw [if_pos (hall 6 (by decide))] at hb
            rw [if_pos (hall 7 (by decide))] at hc
            obtain ⟨y0, y1, y2, y3, yl⟩ := hb.two
            obtain ⟨z0, z1, z2, z3, zl⟩ := hc.two
            have HMW := hid_ (HM9.out.trans hC.base (fun i hi e => by have := HNN.out; omega))
            clear hC hall
            go_wp2_with fail
            exact bodyPost_ret (v := .tuple #[raV low, raV high, .bool (!Ra.less high low)]) (by simp [results, Try.results42, go_sem, y0, y1, z0, z1]) rfl ⟨by rw [HRB.out], HMW.out⟩
end Go.Proofs.Ytadiajlegajclaa
