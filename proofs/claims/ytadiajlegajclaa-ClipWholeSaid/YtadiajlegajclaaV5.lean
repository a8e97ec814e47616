/- ClipWhole, walked. -/
import Derived.Test.YtadiajlegajclaaV6
import Derived.Test.YtadiajlegajclaaP7
import Derived.Test.YtadiajlegajclaaL6
import Derived.Test.YtadiajlegajclaaW5
set_option linter.unusedVariables false
set_option linter.unusedSimpArgs false
namespace Go.Proofs.Ytadiajlegajclaa
open Go.RowKit

set_option maxRecDepth 100000 in
set_option maxHeartbeats 16000000 in
theorem law5_any (w : World) (A : Option Addr) (c n : Nat) (l : List Pt) (b : Bx) (hn : l.length = n) (hl : PtsAt w w.heap.size A l) (hm : n ≤ 8796093021952) (hwf : ∀ p ∈ l, PtWf p) (hb : BxWf b) :
    Calls Try.prog 5 #[.slice A n c, bxV b] w (BPost true w) := by
  have CL := hid_ (fun w' (hn' : n ≤ 200) (hm' : Mod Nothing w w') => line_any (w := w') A c n l b hn ((hl.mod hm' (Nat.le_refl _) (fun _ _ => id)).mono hm'.size) (by omega) hwf hb)
  have CRG := hid_ (fun w' (hn' : n ≤ 200) (hm' : Mod Nothing w w') => ring_any (w := w') A c n l b hn ((hl.mod hm' (Nat.le_refl _) (fun _ _ => id)).mono hm'.size) (by omega) hwf hb)
  have CMV := hid_ (fun w' (hm' : Mod Nothing w w') => moved_any w' A c n l ⟨0, 0⟩ hn ((hl.mod hm' (Nat.le_refl _) (fun _ _ => id)).mono hm'.size) (by omega))
  have CDF := hid_ (fun w' (hn' : n ≤ 200) (hm' : Mod Nothing w w') => different_any w' A c n l hn ((hl.mod hm' (Nat.le_refl _) (fun _ _ => id)).mono hm'.size) (by omega))
  have CAR := hid_ (fun w' (hn' : n ≤ 200) (hm' : Mod Nothing w w') => around_any w' A c n l hn ((hl.mod hm' (Nat.le_refl _) (fun _ _ => id)).mono hm'.size) (by omega))
  have HL := hid_ hl
  have HN := hid_ hn
  have vm : (n : Int) ≤ 9223372036854775807 := by omega
  clear hl hn hwf hb
  go_enter Try.func5, Try.ntmps5
  go_wp2_with fail
  have HB := hid_ (Bk.new w 26 [.int .i64 b.lo.x, .int .i64 b.lo.y, .int .i64 b.hi.x, .int .i64 b.hi.y])
  have HM0 := hid_ ((Mod.refl Nothing w).alloc (.cells #[.int .i64 b.lo.x, .int .i64 b.lo.y, .int .i64 b.hi.x, .int .i64 b.hi.y] 26))
  refine (head_any _).mono ?_
  rintro e w1 ⟨rfl, hm1⟩
  have HM1 := hid_ (HM0.out.trans hm1 (fun _ _ h => h))
  have HB1 := hid_ (hm1.bk HB.out id)
  clear hm1 HM0 HB
  go_wp2_with fail
  refine (CMV.out _ HM1.out).mono ?_
  rintro e w2 ⟨v, rfl, ⟨AP, np, cp, rfl⟩, hov, hm2⟩
  have HM2 := hid_ (HM1.out.trans hm2 (fun _ _ h => h))
  have HB2 := hid_ (hm2.bk HB1.out id)
  clear hm2 hov HB1 HM1
  by_cases hn2 : 200 < n
  · go_wp2
    go_returns
    exact ⟨rfl, HM2.out⟩
  have hn3 : n ≤ 200 := by omega
  obtain ⟨b0, b1, b2, b3, -, -, -, -, hbl⟩ := HB2.out.four
  go_wp2_with fail
  refine (rproper_any b _).mono ?_
  rintro e w3 ⟨rfl, hm3⟩
  have HM3 := hid_ (HM2.out.trans hm3 (fun _ _ h => h))
  have HB3 := hid_ (hm3.bk HB2.out id)
  clear hm3 b0 b1 b2 b3 hbl HB2 HM2
  cases hbx : boxB b with
  | false =>
    go_wp2
    go_returns
    exact ⟨rfl, HM3.out⟩
  | true =>
  have HBX := hid_ hbx
  clear hbx
  cases hmv : movedB l ⟨0, 0⟩ with
  | false =>
    go_wp2
    go_returns
    exact ⟨rfl, HM3.out⟩
  | true =>
  have HMV := hid_ (moved_near hmv).1
  clear hmv
  go_wp2_with fail
  go_loopw [8, 9, 10, 11, 12, 13] (fun fa f0 f1 f2 f3 i wr => ∃ k : Nat, k ≤ n ∧ i = .int .i64 k ∧ fa = .bool ((l.take k).all (inB · b)) ∧ f0 = .bool ((l.take k).all (beyB 0 b)) ∧ f1 = .bool ((l.take k).all (beyB 1 b)) ∧ f2 = .bool ((l.take k).all (beyB 2 b)) ∧ f3 = .bool ((l.take k).all (beyB 3 b)) ∧ Mod Nothing w3 wr) (fun _ _ _ _ _ i _ => n - (intOf i).toNat)
  case atStart => exact ⟨0, Nat.zero_le _, rfl, rfl, rfl, rfl, rfl, rfl, Mod.refl _ _⟩
  case round =>
    obtain ⟨k, hk, rfl, rfl, rfl, rfl, rfl, rfl, hmd⟩ := hrel
    have HM := hid_ hmd
    have HMW := hid_ (HM3.out.trans hmd (fun _ _ h => h))
    have HBW := hid_ (hmd.bk HB3.out id)
    clear hmd
    by_cases hlt : k < n
    · obtain ⟨p, hp⟩ : ∃ p, l[k]? = some p := ⟨_, List.getElem?_eq_getElem (by rw [HN.out]; exact hlt)⟩
      obtain ⟨bb, off, hA, hbb0, p0, p1⟩ := (HL.out.mod HMW.out (Nat.le_refl _) (fun _ _ => id)) k p hp
      have hbb : bb < wr.heap.size := Nat.lt_of_lt_of_le hbb0 HMW.out.size
      have hall : ∀ f : Pt → Bool, (l.take (k + 1)).all f = ((l.take k).all f && f p) := fun f => by rw [List.take_add_one, hp, List.all_append]; simp
      have HALL := hid_ hall
      obtain ⟨fa, hfa⟩ : ∃ fa, fa = (l.take k).all (inB · b) := ⟨_, rfl⟩
      obtain ⟨f0, hf0⟩ : ∃ f, f = (l.take k).all (beyB 0 b) := ⟨_, rfl⟩
      obtain ⟨f1, hf1⟩ : ∃ f, f = (l.take k).all (beyB 1 b) := ⟨_, rfl⟩
      obtain ⟨f2, hf2⟩ : ∃ f, f = (l.take k).all (beyB 2 b) := ⟨_, rfl⟩
      obtain ⟨f3, hf3⟩ : ∃ f, f = (l.take k).all (beyB 3 b) := ⟨_, rfl⟩
      rw [← hfa, ← hf0, ← hf1, ← hf2, ← hf3]
      have HFA := hid_ hfa
      have HF0 := hid_ hf0
      have HF1 := hid_ hf1
      have HF2 := hid_ hf2
      have HF3 := hid_ hf3
      have v1 : (0 : Int) ≤ (k : Int) := by omega
      have v2 : (k : Int) < n := by omega
      subst hA
      clear hp hbb0 hall hfa hf0 hf1 hf2 hf3
      go_wp2_with fail
      refine wp_merge (.bool (fa && inB p b)) (Mod Nothing wr) ?_ ?_
      rotate_left
      · intro Q' HQ0
        have HQ := HQ0
        clear HQ0
        cases fa with
        | true =>
                    refine wp_region_late [(9, 8)] (.bool true) (fun γ => [.bool true, .bool true, .slice (some ⟨bb, off, none⟩) n c, .int .i64 k, .pointer (some ⟨bb, off + k * 2, none⟩), ptV p, bxV b, .bool (inB p b), .bool (inB p b), γ]) (LateC 9 wr (.bool true) (.bool (true && inB p b))) (by kernel_rfl) (by kernel_rfl)
                      (fun γ => by simp only [putAll, Act.put, List.setIfInBounds_toArray, List.set_cons_zero, List.set_cons_succ]; rfl) ?_ ⟨(Mod.refl _ _).drew, fun _ => rfl, fun h => by simp at h, fun h => by simp at h⟩ ?_ ?_
                    · intro L γ w' hC p hp hl
                      simp only [List.mem_cons, List.not_mem_nil, or_false] at hp
                      subst hp
                      show some γ = some (.bool true)
                      rw [hC.q hl]
                    · refine ⟨?_, ?_, ?_, ?_, ?_, ?_, ?_, ?_, ?_, ?_, trivial⟩
                      · intro L γ w' hun hw hC
                        refine step_yes rfl ?_
                        obtain rfl := hC.none hun
                        have HC := hid_ hC
                        clear hun hw hC
                        go_simp
                        exact turned _ rfl (HC.out.skip (i := 0) (by decide) (Mod.refl _ _))
                      · intro L γ w' hun hw hC
                        refine step_yes rfl ?_
                        have HC := hid_ hC
                        clear hun hw hC
                        go_simp
                        exact turned γ rfl (HC.out.skip (i := 1) (by decide) (Mod.refl _ _))
                      · intro L γ w' hun hw hC
                        refine step_yes rfl ?_
                        have HC := hid_ hC
                        clear hun hw hC
                        go_simp
                        exact turned γ rfl (HC.out.skip (i := 2) (by decide) (Mod.refl _ _))
                      · intro L γ w' hun hw hC
                        refine step_yes rfl ?_
                        have HC := hid_ hC
                        clear hun hw hC
                        go_simp
                        exact turned γ rfl (HC.out.skip (i := 3) (by decide) (Mod.refl _ _))
                      · intro L γ w' hun hw hC
                        refine step_yes rfl ?_
                        have HC := hid_ hC
                        clear hun hw hC
                        go_simp
                        exact turned γ rfl (HC.out.skip (i := 4) (by decide) (Mod.refl _ _))
                      · intro L γ w' hun hw hC
                        refine step_yes rfl ?_
                        have HC := hid_ hC
                        have c0 := (HC.out.base.cell (p := ⟨bb, off + k * 2, none⟩) hbb id).trans p0
                        have c1 := (HC.out.base.cell (p := ⟨bb, off + k * 2 + 1, none⟩) hbb id).trans p1
                        clear hun hw hC
                        go_simp
                        exact turned γ rfl (HC.out.skip (i := 5) (by decide) (Mod.refl _ _))
                      · intro L γ w' hun hw hC
                        refine step_yes rfl ?_
                        have HC := hid_ hC
                        obtain ⟨b0, b1, b2, b3, -, -, -, -, hbl⟩ := (HC.out.base.bk HBW.out id).four
                        clear hun hw hC
                        go_simp
                        exact turned γ rfl (HC.out.skip (i := 6) (by decide) (Mod.refl _ _))
                      · intro L γ w' hun hw hC
                        refine step_yes rfl ?_
                        have HC := hid_ hC
                        clear hun hw hC
                        go_simp
                        refine (rin_any p b _).mono ?_
                        rintro e w3 ⟨rfl, hm⟩
                        exact turned γ rfl (HC.out.skip (i := 7) (by decide) hm)
                      · intro L γ w' hun hw hC
                        refine step_yes rfl ?_
                        have HC := hid_ hC
                        clear hun hw hC
                        go_simp
                        exact turned γ rfl (HC.out.skip (i := 8) (by decide) (Mod.refl _ _))
                      · intro L γ w' hun hw hC
                        refine step_yes rfl ?_
                        have h0 : L.getD 0 false = true := hw ⟨0, .phase⟩ (by simp) rfl
                        have HC := hid_ (hC.last hun h0)
                        clear hun hw hC h0
                        go_simp
                        exact turned _ rfl HC.out
                    · intro L γ wy hall hC
                      obtain rfl := hC.r (hall 9 (by decide))
                      have hmY := hC.base
                      clear hall hC
                      have h := HQ [.bool true, .bool true, .slice (some ⟨bb, off, none⟩) n c, .int .i64 k, .pointer (some ⟨bb, off + k * 2, none⟩), ptV p, bxV b, .bool (inB p b), .bool (inB p b)] wy rfl hmY
                      simp only [List.cons_append, List.nil_append, putAll, Act.put, List.setIfInBounds_toArray, List.set_cons_zero, List.set_cons_succ] at h
                      exact h
        | false =>
                    refine wp_region_late [(9, 8)] (.bool false) (fun γ => [.bool false, .bool false, undef, undef, undef, undef, undef, undef, .bool false, γ]) (LateC 9 wr (.bool false) (.bool (false && inB p b))) (by kernel_rfl) (by kernel_rfl)
                      (fun γ => by simp only [putAll, Act.put, List.setIfInBounds_toArray, List.set_cons_zero, List.set_cons_succ]; rfl) ?_ ⟨(Mod.refl _ _).drew, fun _ => rfl, fun h => by simp at h, fun h => by simp at h⟩ ?_ ?_
                    · intro L γ w' hC p hp hl
                      simp only [List.mem_cons, List.not_mem_nil, or_false] at hp
                      subst hp
                      show some γ = some (.bool false)
                      rw [hC.q hl]
                    · refine ⟨?_, ?_, ?_, ?_, ?_, ?_, ?_, ?_, ?_, ?_, trivial⟩
                      · intro L γ w' hun hw hC
                        refine step_yes rfl ?_
                        obtain rfl := hC.none hun
                        have HC := hid_ hC
                        clear hun hw hC
                        go_simp
                        exact turned _ rfl (HC.out.skip (i := 0) (by decide) (Mod.refl _ _))
                      · intro L γ w' hun hw hC
                        refine step_yes rfl ?_
                        have HC := hid_ hC
                        clear hun hw hC
                        go_simp
                        exact turned γ rfl (HC.out.skip (i := 1) (by decide) (Mod.refl _ _))
                      · intro L γ w' hun hw hC
                        exact step_no rfl (turned γ rfl (hC.skip (i := 2) (by decide) (Mod.refl _ _)))
                      · intro L γ w' hun hw hC
                        exact step_no rfl (turned γ rfl (hC.skip (i := 3) (by decide) (Mod.refl _ _)))
                      · intro L γ w' hun hw hC
                        exact step_no rfl (turned γ rfl (hC.skip (i := 4) (by decide) (Mod.refl _ _)))
                      · intro L γ w' hun hw hC
                        exact step_no rfl (turned γ rfl (hC.skip (i := 5) (by decide) (Mod.refl _ _)))
                      · intro L γ w' hun hw hC
                        exact step_no rfl (turned γ rfl (hC.skip (i := 6) (by decide) (Mod.refl _ _)))
                      · intro L γ w' hun hw hC
                        exact step_no rfl (turned γ rfl (hC.skip (i := 7) (by decide) (Mod.refl _ _)))
                      · intro L γ w' hun hw hC
                        refine step_yes rfl ?_
                        have HC := hid_ hC
                        clear hun hw hC
                        go_simp
                        exact turned γ rfl (HC.out.skip (i := 8) (by decide) (Mod.refl _ _))
                      · intro L γ w' hun hw hC
                        refine step_yes rfl ?_
                        have h0 : L.getD 0 false = true := hw ⟨0, .phase⟩ (by simp) rfl
                        have HC := hid_ (hC.last hun h0)
                        clear hun hw hC h0
                        go_simp
                        exact turned _ rfl HC.out
                    · intro L γ wy hall hC
                      obtain rfl := hC.r (hall 9 (by decide))
                      have hmY := hC.base
                      clear hall hC
                      have h := HQ [.bool false, .bool false, undef, undef, undef, undef, undef, undef, .bool false] wy rfl hmY
                      simp only [List.cons_append, List.nil_append, putAll, Act.put, List.setIfInBounds_toArray, List.set_cons_zero, List.set_cons_succ] at h
                      exact h
      intro vs wy hvs hmY
      obtain ⟨x0, x1, x2, x3, x4, x5, x6, x7, x8, rfl⟩ := list9 (show vs.length = 9 from by simpa using hvs)
      clear hvs
      simp only [List.cons_append, List.nil_append, putAll, Act.put, List.setIfInBounds_toArray, List.set_cons_zero, List.set_cons_succ]
      have HMX := hid_ (HM.out.trans hmY (fun _ _ h => h))
      have HBY := hid_ (hmY.bk HBW.out id)
      obtain ⟨p0, p1⟩ : wy.cell? ⟨bb, off + k * 2, none⟩ = some (.int .i64 p.x) ∧ wy.cell? ⟨bb, off + k * 2 + 1, none⟩ = some (.int .i64 p.y) := ⟨(hmY.cell (p := ⟨bb, off + k * 2, none⟩) hbb id).trans p0, (hmY.cell (p := ⟨bb, off + k * 2 + 1, none⟩) hbb id).trans p1⟩
      have hbb : bb < wy.heap.size := Nat.lt_of_lt_of_le hbb hmY.size
      clear hmY
      go_wp2_with fail
      refine wp_merge (.bool (f0 && beyB 0 b p)) (Mod Nothing wy) ?_ ?_
      rotate_left
      · intro Q' HQ0
        have HQ := HQ0
        clear HQ0
        cases f0 with
        | true =>
          refine wp_region_late [(12, 9)] (.bool true) (fun γ => [.bool true, .bool true, .slice (some ⟨bb, off, none⟩) n c, .int .i64 k, .pointer (some ⟨bb, off + k * 2, none⟩), .pointer (some ⟨bb, off + k * 2, none⟩), .int .i64 p.x, .pointer (some ⟨w.heap.size, 0, none⟩), .pointer (some ⟨w.heap.size, 0, none⟩), .int .i64 b.lo.x, .bool (beyB 0 b p), .bool (beyB 0 b p), γ]) (LateC 12 wy (.bool true) (.bool (true && beyB 0 b p))) (by kernel_rfl) (by kernel_rfl)
            (fun γ => by simp only [putAll, Act.put, List.setIfInBounds_toArray, List.set_cons_zero, List.set_cons_succ]; rfl) ?_ ⟨(Mod.refl _ _).drew, fun _ => rfl, fun h => by simp at h, fun h => by simp at h⟩ ?_ ?_
          · intro L γ w' hC p hp hl
            simp only [List.mem_cons, List.not_mem_nil, or_false] at hp
            subst hp
            show some γ = some (.bool true)
            rw [hC.q hl]
          · refine ⟨?_, ?_, ?_, ?_, ?_, ?_, ?_, ?_, ?_, ?_, ?_, ?_, ?_, trivial⟩
            · intro L γ w' hun hw hC
              refine step_yes rfl ?_
              obtain rfl := hC.none hun
              have HC := hid_ hC
              clear hun hw hC
              go_simp
              exact turned _ rfl (HC.out.skip (i := 0) (by decide) (Mod.refl _ _))
            · intro L γ w' hun hw hC
              refine step_yes rfl ?_
              have HC := hid_ hC
              clear hun hw hC
              go_simp
              exact turned γ rfl (HC.out.skip (i := 1) (by decide) (Mod.refl _ _))
            · intro L γ w' hun hw hC
              refine step_yes rfl ?_
              have HC := hid_ hC
              clear hun hw hC
              go_simp
              exact turned γ rfl (HC.out.skip (i := 2) (by decide) (Mod.refl _ _))
            · intro L γ w' hun hw hC
              refine step_yes rfl ?_
              have HC := hid_ hC
              clear hun hw hC
              go_simp
              exact turned γ rfl (HC.out.skip (i := 3) (by decide) (Mod.refl _ _))
            · intro L γ w' hun hw hC
              refine step_yes rfl ?_
              have HC := hid_ hC
              clear hun hw hC
              go_simp
              exact turned γ rfl (HC.out.skip (i := 4) (by decide) (Mod.refl _ _))
            · intro L γ w' hun hw hC
              refine step_yes rfl ?_
              have HC := hid_ hC
              clear hun hw hC
              go_simp
              exact turned γ rfl (HC.out.skip (i := 5) (by decide) (Mod.refl _ _))
            · intro L γ w' hun hw hC
              refine step_yes rfl ?_
              have HC := hid_ hC
              have c0 := (HC.out.base.cell (p := ⟨bb, off + k * 2, none⟩) hbb id).trans p0
              clear hun hw hC
              go_simp
              exact turned γ rfl (HC.out.skip (i := 6) (by decide) (Mod.refl _ _))
            · intro L γ w' hun hw hC
              refine step_yes rfl ?_
              have HC := hid_ hC
              clear hun hw hC
              go_simp
              exact turned γ rfl (HC.out.skip (i := 7) (by decide) (Mod.refl _ _))
            · intro L γ w' hun hw hC
              refine step_yes rfl ?_
              have HC := hid_ hC
              clear hun hw hC
              go_simp
              exact turned γ rfl (HC.out.skip (i := 8) (by decide) (Mod.refl _ _))
            · intro L γ w' hun hw hC
              refine step_yes rfl ?_
              have HC := hid_ hC
              obtain ⟨d0, d1, d2, d3, -, -, -, -, hdl⟩ := (HC.out.base.bk HBY.out id).four
              clear hun hw hC
              go_simp
              exact turned γ rfl (HC.out.skip (i := 9) (by decide) (Mod.refl _ _))
            · intro L γ w' hun hw hC
              refine step_yes rfl ?_
              have HC := hid_ hC
              clear hun hw hC
              go_simp
              exact turned γ rfl (HC.out.skip (i := 10) (by decide) (Mod.refl _ _))
            · intro L γ w' hun hw hC
              refine step_yes rfl ?_
              have HC := hid_ hC
              clear hun hw hC
              go_simp
              exact turned γ rfl (HC.out.skip (i := 11) (by decide) (Mod.refl _ _))
            · intro L γ w' hun hw hC
              refine step_yes rfl ?_
              have h0 : L.getD 0 false = true := hw ⟨0, .phase⟩ (by simp) rfl
              have HC := hid_ (hC.last hun h0)
              clear hun hw hC h0
              go_simp
              exact turned _ rfl HC.out
          · intro L γ wy2 hall hC
            obtain rfl := hC.r (hall 12 (by decide))
            have hmY := hC.base
            clear hall hC
            have h := HQ [.bool true, .bool true, .slice (some ⟨bb, off, none⟩) n c, .int .i64 k, .pointer (some ⟨bb, off + k * 2, none⟩), .pointer (some ⟨bb, off + k * 2, none⟩), .int .i64 p.x, .pointer (some ⟨w.heap.size, 0, none⟩), .pointer (some ⟨w.heap.size, 0, none⟩), .int .i64 b.lo.x, .bool (beyB 0 b p), .bool (beyB 0 b p)] wy2 rfl hmY
            simp only [List.cons_append, List.nil_append, putAll, Act.put, List.setIfInBounds_toArray, List.set_cons_zero, List.set_cons_succ] at h
            exact h
        | false =>
          refine wp_region_late [(12, 9)] (.bool false) (fun γ => [.bool false, .bool false, undef, undef, undef, undef, undef, undef, undef, undef, undef, .bool false, γ]) (LateC 12 wy (.bool false) (.bool (false && beyB 0 b p))) (by kernel_rfl) (by kernel_rfl)
            (fun γ => by simp only [putAll, Act.put, List.setIfInBounds_toArray, List.set_cons_zero, List.set_cons_succ]; rfl) ?_ ⟨(Mod.refl _ _).drew, fun _ => rfl, fun h => by simp at h, fun h => by simp at h⟩ ?_ ?_
          · intro L γ w' hC p hp hl
            simp only [List.mem_cons, List.not_mem_nil, or_false] at hp
            subst hp
            show some γ = some (.bool false)
            rw [hC.q hl]
          · refine ⟨?_, ?_, ?_, ?_, ?_, ?_, ?_, ?_, ?_, ?_, ?_, ?_, ?_, trivial⟩
            · intro L γ w' hun hw hC
              refine step_yes rfl ?_
              obtain rfl := hC.none hun
              have HC := hid_ hC
              clear hun hw hC
              go_simp
              exact turned _ rfl (HC.out.skip (i := 0) (by decide) (Mod.refl _ _))
            · intro L γ w' hun hw hC
              refine step_yes rfl ?_
              have HC := hid_ hC
              clear hun hw hC
              go_simp
              exact turned γ rfl (HC.out.skip (i := 1) (by decide) (Mod.refl _ _))
            · intro L γ w' hun hw hC
              exact step_no rfl (turned γ rfl (hC.skip (i := 2) (by decide) (Mod.refl _ _)))
            · intro L γ w' hun hw hC
              exact step_no rfl (turned γ rfl (hC.skip (i := 3) (by decide) (Mod.refl _ _)))
            · intro L γ w' hun hw hC
              exact step_no rfl (turned γ rfl (hC.skip (i := 4) (by decide) (Mod.refl _ _)))
            · intro L γ w' hun hw hC
              exact step_no rfl (turned γ rfl (hC.skip (i := 5) (by decide) (Mod.refl _ _)))
            · intro L γ w' hun hw hC
              exact step_no rfl (turned γ rfl (hC.skip (i := 6) (by decide) (Mod.refl _ _)))
            · intro L γ w' hun hw hC
              exact step_no rfl (turned γ rfl (hC.skip (i := 7) (by decide) (Mod.refl _ _)))
            · intro L γ w' hun hw hC
              exact step_no rfl (turned γ rfl (hC.skip (i := 8) (by decide) (Mod.refl _ _)))
            · intro L γ w' hun hw hC
              exact step_no rfl (turned γ rfl (hC.skip (i := 9) (by decide) (Mod.refl _ _)))
            · intro L γ w' hun hw hC
              exact step_no rfl (turned γ rfl (hC.skip (i := 10) (by decide) (Mod.refl _ _)))
            · intro L γ w' hun hw hC
              refine step_yes rfl ?_
              have HC := hid_ hC
              clear hun hw hC
              go_simp
              exact turned γ rfl (HC.out.skip (i := 11) (by decide) (Mod.refl _ _))
            · intro L γ w' hun hw hC
              refine step_yes rfl ?_
              have h0 : L.getD 0 false = true := hw ⟨0, .phase⟩ (by simp) rfl
              have HC := hid_ (hC.last hun h0)
              clear hun hw hC h0
              go_simp
              exact turned _ rfl HC.out
          · intro L γ wy2 hall hC
            obtain rfl := hC.r (hall 12 (by decide))
            have hmY := hC.base
            clear hall hC
            have h := HQ [.bool false, .bool false, undef, undef, undef, undef, undef, undef, undef, undef, undef, .bool false] wy2 rfl hmY
            simp only [List.cons_append, List.nil_append, putAll, Act.put, List.setIfInBounds_toArray, List.set_cons_zero, List.set_cons_succ] at h
            exact h
      intro vs wy1 hvs hmY
      obtain ⟨x0, x1, x2, x3, x4, x5, x6, x7, x8, x9, x10, x11, rfl⟩ := list12 (show vs.length = 12 from by simpa using hvs)
      clear hvs
      simp only [List.cons_append, List.nil_append, putAll, Act.put, List.setIfInBounds_toArray, List.set_cons_zero, List.set_cons_succ]
      have HMX := hid_ (HMX.out.trans hmY (fun _ _ h => h))
      have HBY := hid_ (hmY.bk HBY.out id)
      obtain ⟨p0, p1⟩ : wy1.cell? ⟨bb, off + k * 2, none⟩ = some (.int .i64 p.x) ∧ wy1.cell? ⟨bb, off + k * 2 + 1, none⟩ = some (.int .i64 p.y) := ⟨(hmY.cell (p := ⟨bb, off + k * 2, none⟩) hbb id).trans p0, (hmY.cell (p := ⟨bb, off + k * 2 + 1, none⟩) hbb id).trans p1⟩
      have hbb : bb < wy1.heap.size := Nat.lt_of_lt_of_le hbb hmY.size
      clear hmY
      go_wp2_with fail
      refine wp_merge (.bool (f1 && beyB 1 b p)) (Mod Nothing wy1) ?_ ?_
      rotate_left
      · intro Q' HQ0
        have HQ := HQ0
        clear HQ0
        cases f1 with
        | true =>
          refine wp_region_late [(12, 10)] (.bool true) (fun γ => [.bool true, .bool true, .slice (some ⟨bb, off, none⟩) n c, .int .i64 k, .pointer (some ⟨bb, off + k * 2, none⟩), .pointer (some ⟨bb, off + k * 2, none⟩), .int .i64 p.x, .pointer (some ⟨w.heap.size, 2, none⟩), .pointer (some ⟨w.heap.size, 2, none⟩), .int .i64 b.hi.x, .bool (beyB 1 b p), .bool (beyB 1 b p), γ]) (LateC 12 wy1 (.bool true) (.bool (true && beyB 1 b p))) (by kernel_rfl) (by kernel_rfl)
            (fun γ => by simp only [putAll, Act.put, List.setIfInBounds_toArray, List.set_cons_zero, List.set_cons_succ]; rfl) ?_ ⟨(Mod.refl _ _).drew, fun _ => rfl, fun h => by simp at h, fun h => by simp at h⟩ ?_ ?_
          · intro L γ w' hC p hp hl
            simp only [List.mem_cons, List.not_mem_nil, or_false] at hp
            subst hp
            show some γ = some (.bool true)
            rw [hC.q hl]
          · refine ⟨?_, ?_, ?_, ?_, ?_, ?_, ?_, ?_, ?_, ?_, ?_, ?_, ?_, trivial⟩
            · intro L γ w' hun hw hC
              refine step_yes rfl ?_
              obtain rfl := hC.none hun
              have HC := hid_ hC
              clear hun hw hC
              go_simp
              exact turned _ rfl (HC.out.skip (i := 0) (by decide) (Mod.refl _ _))
            · intro L γ w' hun hw hC
              refine step_yes rfl ?_
              have HC := hid_ hC
              clear hun hw hC
              go_simp
              exact turned γ rfl (HC.out.skip (i := 1) (by decide) (Mod.refl _ _))
            · intro L γ w' hun hw hC
              refine step_yes rfl ?_
              have HC := hid_ hC
              clear hun hw hC
              go_simp
              exact turned γ rfl (HC.out.skip (i := 2) (by decide) (Mod.refl _ _))
            · intro L γ w' hun hw hC
              refine step_yes rfl ?_
              have HC := hid_ hC
              clear hun hw hC
              go_simp
              exact turned γ rfl (HC.out.skip (i := 3) (by decide) (Mod.refl _ _))
            · intro L γ w' hun hw hC
              refine step_yes rfl ?_
              have HC := hid_ hC
              clear hun hw hC
              go_simp
              exact turned γ rfl (HC.out.skip (i := 4) (by decide) (Mod.refl _ _))
            · intro L γ w' hun hw hC
              refine step_yes rfl ?_
              have HC := hid_ hC
              clear hun hw hC
              go_simp
              exact turned γ rfl (HC.out.skip (i := 5) (by decide) (Mod.refl _ _))
            · intro L γ w' hun hw hC
              refine step_yes rfl ?_
              have HC := hid_ hC
              have c0 := (HC.out.base.cell (p := ⟨bb, off + k * 2, none⟩) hbb id).trans p0
              clear hun hw hC
              go_simp
              exact turned γ rfl (HC.out.skip (i := 6) (by decide) (Mod.refl _ _))
            · intro L γ w' hun hw hC
              refine step_yes rfl ?_
              have HC := hid_ hC
              clear hun hw hC
              go_simp
              exact turned γ rfl (HC.out.skip (i := 7) (by decide) (Mod.refl _ _))
            · intro L γ w' hun hw hC
              refine step_yes rfl ?_
              have HC := hid_ hC
              clear hun hw hC
              go_simp
              exact turned γ rfl (HC.out.skip (i := 8) (by decide) (Mod.refl _ _))
            · intro L γ w' hun hw hC
              refine step_yes rfl ?_
              have HC := hid_ hC
              obtain ⟨d0, d1, d2, d3, -, -, -, -, hdl⟩ := (HC.out.base.bk HBY.out id).four
              clear hun hw hC
              go_simp
              exact turned γ rfl (HC.out.skip (i := 9) (by decide) (Mod.refl _ _))
            · intro L γ w' hun hw hC
              refine step_yes rfl ?_
              have HC := hid_ hC
              clear hun hw hC
              go_simp
              exact turned γ rfl (HC.out.skip (i := 10) (by decide) (Mod.refl _ _))
            · intro L γ w' hun hw hC
              refine step_yes rfl ?_
              have HC := hid_ hC
              clear hun hw hC
              go_simp
              exact turned γ rfl (HC.out.skip (i := 11) (by decide) (Mod.refl _ _))
            · intro L γ w' hun hw hC
              refine step_yes rfl ?_
              have h0 : L.getD 0 false = true := hw ⟨0, .phase⟩ (by simp) rfl
              have HC := hid_ (hC.last hun h0)
              clear hun hw hC h0
              go_simp
              exact turned _ rfl HC.out
          · intro L γ wy2 hall hC
            obtain rfl := hC.r (hall 12 (by decide))
            have hmY := hC.base
            clear hall hC
            have h := HQ [.bool true, .bool true, .slice (some ⟨bb, off, none⟩) n c, .int .i64 k, .pointer (some ⟨bb, off + k * 2, none⟩), .pointer (some ⟨bb, off + k * 2, none⟩), .int .i64 p.x, .pointer (some ⟨w.heap.size, 2, none⟩), .pointer (some ⟨w.heap.size, 2, none⟩), .int .i64 b.hi.x, .bool (beyB 1 b p), .bool (beyB 1 b p)] wy2 rfl hmY
            simp only [List.cons_append, List.nil_append, putAll, Act.put, List.setIfInBounds_toArray, List.set_cons_zero, List.set_cons_succ] at h
            exact h
        | false =>
          refine wp_region_late [(12, 10)] (.bool false) (fun γ => [.bool false, .bool false, undef, undef, undef, undef, undef, undef, undef, undef, undef, .bool false, γ]) (LateC 12 wy1 (.bool false) (.bool (false && beyB 1 b p))) (by kernel_rfl) (by kernel_rfl)
            (fun γ => by simp only [putAll, Act.put, List.setIfInBounds_toArray, List.set_cons_zero, List.set_cons_succ]; rfl) ?_ ⟨(Mod.refl _ _).drew, fun _ => rfl, fun h => by simp at h, fun h => by simp at h⟩ ?_ ?_
          · intro L γ w' hC p hp hl
            simp only [List.mem_cons, List.not_mem_nil, or_false] at hp
            subst hp
            show some γ = some (.bool false)
            rw [hC.q hl]
          · refine ⟨?_, ?_, ?_, ?_, ?_, ?_, ?_, ?_, ?_, ?_, ?_, ?_, ?_, trivial⟩
            · intro L γ w' hun hw hC
              refine step_yes rfl ?_
              obtain rfl := hC.none hun
              have HC := hid_ hC
              clear hun hw hC
              go_simp
              exact turned _ rfl (HC.out.skip (i := 0) (by decide) (Mod.refl _ _))
            · intro L γ w' hun hw hC
              refine step_yes rfl ?_
              have HC := hid_ hC
              clear hun hw hC
              go_simp
              exact turned γ rfl (HC.out.skip (i := 1) (by decide) (Mod.refl _ _))
            · intro L γ w' hun hw hC
              exact step_no rfl (turned γ rfl (hC.skip (i := 2) (by decide) (Mod.refl _ _)))
            · intro L γ w' hun hw hC
              exact step_no rfl (turned γ rfl (hC.skip (i := 3) (by decide) (Mod.refl _ _)))
            · intro L γ w' hun hw hC
              exact step_no rfl (turned γ rfl (hC.skip (i := 4) (by decide) (Mod.refl _ _)))
            · intro L γ w' hun hw hC
              exact step_no rfl (turned γ rfl (hC.skip (i := 5) (by decide) (Mod.refl _ _)))
            · intro L γ w' hun hw hC
              exact step_no rfl (turned γ rfl (hC.skip (i := 6) (by decide) (Mod.refl _ _)))
            · intro L γ w' hun hw hC
              exact step_no rfl (turned γ rfl (hC.skip (i := 7) (by decide) (Mod.refl _ _)))
            · intro L γ w' hun hw hC
              exact step_no rfl (turned γ rfl (hC.skip (i := 8) (by decide) (Mod.refl _ _)))
            · intro L γ w' hun hw hC
              exact step_no rfl (turned γ rfl (hC.skip (i := 9) (by decide) (Mod.refl _ _)))
            · intro L γ w' hun hw hC
              exact step_no rfl (turned γ rfl (hC.skip (i := 10) (by decide) (Mod.refl _ _)))
            · intro L γ w' hun hw hC
              refine step_yes rfl ?_
              have HC := hid_ hC
              clear hun hw hC
              go_simp
              exact turned γ rfl (HC.out.skip (i := 11) (by decide) (Mod.refl _ _))
            · intro L γ w' hun hw hC
              refine step_yes rfl ?_
              have h0 : L.getD 0 false = true := hw ⟨0, .phase⟩ (by simp) rfl
              have HC := hid_ (hC.last hun h0)
              clear hun hw hC h0
              go_simp
              exact turned _ rfl HC.out
          · intro L γ wy2 hall hC
            obtain rfl := hC.r (hall 12 (by decide))
            have hmY := hC.base
            clear hall hC
            have h := HQ [.bool false, .bool false, undef, undef, undef, undef, undef, undef, undef, undef, undef, .bool false] wy2 rfl hmY
            simp only [List.cons_append, List.nil_append, putAll, Act.put, List.setIfInBounds_toArray, List.set_cons_zero, List.set_cons_succ] at h
            exact h
      intro vs wy2 hvs hmY
      obtain ⟨x0, x1, x2, x3, x4, x5, x6, x7, x8, x9, x10, x11, rfl⟩ := list12 (show vs.length = 12 from by simpa using hvs)
      clear hvs
      simp only [List.cons_append, List.nil_append, putAll, Act.put, List.setIfInBounds_toArray, List.set_cons_zero, List.set_cons_succ]
      have HMX := hid_ (HMX.out.trans hmY (fun _ _ h => h))
      have HBY := hid_ (hmY.bk HBY.out id)
      obtain ⟨p0, p1⟩ : wy2.cell? ⟨bb, off + k * 2, none⟩ = some (.int .i64 p.x) ∧ wy2.cell? ⟨bb, off + k * 2 + 1, none⟩ = some (.int .i64 p.y) := ⟨(hmY.cell (p := ⟨bb, off + k * 2, none⟩) hbb id).trans p0, (hmY.cell (p := ⟨bb, off + k * 2 + 1, none⟩) hbb id).trans p1⟩
      have hbb : bb < wy2.heap.size := Nat.lt_of_lt_of_le hbb hmY.size
      clear hmY
      go_wp2_with fail
      refine wp_merge (.bool (f2 && beyB 2 b p)) (Mod Nothing wy2) ?_ ?_
      rotate_left
      · intro Q' HQ0
        have HQ := HQ0
        clear HQ0
        cases f2 with
        | true =>
          refine wp_region_late [(12, 11)] (.bool true) (fun γ => [.bool true, .bool true, .slice (some ⟨bb, off, none⟩) n c, .int .i64 k, .pointer (some ⟨bb, off + k * 2, none⟩), .pointer (some ⟨bb, off + k * 2 + 1, none⟩), .int .i64 p.y, .pointer (some ⟨w.heap.size, 0, none⟩), .pointer (some ⟨w.heap.size, 1, none⟩), .int .i64 b.lo.y, .bool (beyB 2 b p), .bool (beyB 2 b p), γ]) (LateC 12 wy2 (.bool true) (.bool (true && beyB 2 b p))) (by kernel_rfl) (by kernel_rfl)
            (fun γ => by simp only [putAll, Act.put, List.setIfInBounds_toArray, List.set_cons_zero, List.set_cons_succ]; rfl) ?_ ⟨(Mod.refl _ _).drew, fun _ => rfl, fun h => by simp at h, fun h => by simp at h⟩ ?_ ?_
          · intro L γ w' hC p hp hl
            simp only [List.mem_cons, List.not_mem_nil, or_false] at hp
            subst hp
            show some γ = some (.bool true)
            rw [hC.q hl]
          · refine ⟨?_, ?_, ?_, ?_, ?_, ?_, ?_, ?_, ?_, ?_, ?_, ?_, ?_, trivial⟩
            · intro L γ w' hun hw hC
              refine step_yes rfl ?_
              obtain rfl := hC.none hun
              have HC := hid_ hC
              clear hun hw hC
              go_simp
              exact turned _ rfl (HC.out.skip (i := 0) (by decide) (Mod.refl _ _))
            · intro L γ w' hun hw hC
              refine step_yes rfl ?_
              have HC := hid_ hC
              clear hun hw hC
              go_simp
              exact turned γ rfl (HC.out.skip (i := 1) (by decide) (Mod.refl _ _))
            · intro L γ w' hun hw hC
              refine step_yes rfl ?_
              have HC := hid_ hC
              clear hun hw hC
              go_simp
              exact turned γ rfl (HC.out.skip (i := 2) (by decide) (Mod.refl _ _))
            · intro L γ w' hun hw hC
              refine step_yes rfl ?_
              have HC := hid_ hC
              clear hun hw hC
              go_simp
              exact turned γ rfl (HC.out.skip (i := 3) (by decide) (Mod.refl _ _))
            · intro L γ w' hun hw hC
              refine step_yes rfl ?_
              have HC := hid_ hC
              clear hun hw hC
              go_simp
              exact turned γ rfl (HC.out.skip (i := 4) (by decide) (Mod.refl _ _))
            · intro L γ w' hun hw hC
              refine step_yes rfl ?_
              have HC := hid_ hC
              clear hun hw hC
              go_simp
              exact turned γ rfl (HC.out.skip (i := 5) (by decide) (Mod.refl _ _))
            · intro L γ w' hun hw hC
              refine step_yes rfl ?_
              have HC := hid_ hC
              have c0 := (HC.out.base.cell (p := ⟨bb, off + k * 2 + 1, none⟩) hbb id).trans p1
              clear hun hw hC
              go_simp
              exact turned γ rfl (HC.out.skip (i := 6) (by decide) (Mod.refl _ _))
            · intro L γ w' hun hw hC
              refine step_yes rfl ?_
              have HC := hid_ hC
              clear hun hw hC
              go_simp
              exact turned γ rfl (HC.out.skip (i := 7) (by decide) (Mod.refl _ _))
            · intro L γ w' hun hw hC
              refine step_yes rfl ?_
              have HC := hid_ hC
              clear hun hw hC
              go_simp
              exact turned γ rfl (HC.out.skip (i := 8) (by decide) (Mod.refl _ _))
            · intro L γ w' hun hw hC
              refine step_yes rfl ?_
              have HC := hid_ hC
              obtain ⟨d0, d1, d2, d3, -, -, -, -, hdl⟩ := (HC.out.base.bk HBY.out id).four
              clear hun hw hC
              go_simp
              exact turned γ rfl (HC.out.skip (i := 9) (by decide) (Mod.refl _ _))
            · intro L γ w' hun hw hC
              refine step_yes rfl ?_
              have HC := hid_ hC
              clear hun hw hC
              go_simp
              exact turned γ rfl (HC.out.skip (i := 10) (by decide) (Mod.refl _ _))
            · intro L γ w' hun hw hC
              refine step_yes rfl ?_
              have HC := hid_ hC
              clear hun hw hC
              go_simp
              exact turned γ rfl (HC.out.skip (i := 11) (by decide) (Mod.refl _ _))
            · intro L γ w' hun hw hC
              refine step_yes rfl ?_
              have h0 : L.getD 0 false = true := hw ⟨0, .phase⟩ (by simp) rfl
              have HC := hid_ (hC.last hun h0)
              clear hun hw hC h0
              go_simp
              exact turned _ rfl HC.out
          · intro L γ wy2 hall hC
            obtain rfl := hC.r (hall 12 (by decide))
            have hmY := hC.base
            clear hall hC
            have h := HQ [.bool true, .bool true, .slice (some ⟨bb, off, none⟩) n c, .int .i64 k, .pointer (some ⟨bb, off + k * 2, none⟩), .pointer (some ⟨bb, off + k * 2 + 1, none⟩), .int .i64 p.y, .pointer (some ⟨w.heap.size, 0, none⟩), .pointer (some ⟨w.heap.size, 1, none⟩), .int .i64 b.lo.y, .bool (beyB 2 b p), .bool (beyB 2 b p)] wy2 rfl hmY
            simp only [List.cons_append, List.nil_append, putAll, Act.put, List.setIfInBounds_toArray, List.set_cons_zero, List.set_cons_succ] at h
            exact h
        | false =>
          refine wp_region_late [(12, 11)] (.bool false) (fun γ => [.bool false, .bool false, undef, undef, undef, undef, undef, undef, undef, undef, undef, .bool false, γ]) (LateC 12 wy2 (.bool false) (.bool (false && beyB 2 b p))) (by kernel_rfl) (by kernel_rfl)
            (fun γ => by simp only [putAll, Act.put, List.setIfInBounds_toArray, List.set_cons_zero, List.set_cons_succ]; rfl) ?_ ⟨(Mod.refl _ _).drew, fun _ => rfl, fun h => by simp at h, fun h => by simp at h⟩ ?_ ?_
          · intro L γ w' hC p hp hl
            simp only [List.mem_cons, List.not_mem_nil, or_false] at hp
            subst hp
            show some γ = some (.bool false)
            rw [hC.q hl]
          · refine ⟨?_, ?_, ?_, ?_, ?_, ?_, ?_, ?_, ?_, ?_, ?_, ?_, ?_, trivial⟩
            · intro L γ w' hun hw hC
              refine step_yes rfl ?_
              obtain rfl := hC.none hun
              have HC := hid_ hC
              clear hun hw hC
              go_simp
              exact turned _ rfl (HC.out.skip (i := 0) (by decide) (Mod.refl _ _))
            · intro L γ w' hun hw hC
              refine step_yes rfl ?_
              have HC := hid_ hC
              clear hun hw hC
              go_simp
              exact turned γ rfl (HC.out.skip (i := 1) (by decide) (Mod.refl _ _))
            · intro L γ w' hun hw hC
              exact step_no rfl (turned γ rfl (hC.skip (i := 2) (by decide) (Mod.refl _ _)))
            · intro L γ w' hun hw hC
              exact step_no rfl (turned γ rfl (hC.skip (i := 3) (by decide) (Mod.refl _ _)))
            · intro L γ w' hun hw hC
              exact step_no rfl (turned γ rfl (hC.skip (i := 4) (by decide) (Mod.refl _ _)))
            · intro L γ w' hun hw hC
              exact step_no rfl (turned γ rfl (hC.skip (i := 5) (by decide) (Mod.refl _ _)))
            · intro L γ w' hun hw hC
              exact step_no rfl (turned γ rfl (hC.skip (i := 6) (by decide) (Mod.refl _ _)))
            · intro L γ w' hun hw hC
              exact step_no rfl (turned γ rfl (hC.skip (i := 7) (by decide) (Mod.refl _ _)))
            · intro L γ w' hun hw hC
              exact step_no rfl (turned γ rfl (hC.skip (i := 8) (by decide) (Mod.refl _ _)))
            · intro L γ w' hun hw hC
              exact step_no rfl (turned γ rfl (hC.skip (i := 9) (by decide) (Mod.refl _ _)))
            · intro L γ w' hun hw hC
              exact step_no rfl (turned γ rfl (hC.skip (i := 10) (by decide) (Mod.refl _ _)))
            · intro L γ w' hun hw hC
              refine step_yes rfl ?_
              have HC := hid_ hC
              clear hun hw hC
              go_simp
              exact turned γ rfl (HC.out.skip (i := 11) (by decide) (Mod.refl _ _))
            · intro L γ w' hun hw hC
              refine step_yes rfl ?_
              have h0 : L.getD 0 false = true := hw ⟨0, .phase⟩ (by simp) rfl
              have HC := hid_ (hC.last hun h0)
              clear hun hw hC h0
              go_simp
              exact turned _ rfl HC.out
          · intro L γ wy2 hall hC
            obtain rfl := hC.r (hall 12 (by decide))
            have hmY := hC.base
            clear hall hC
            have h := HQ [.bool false, .bool false, undef, undef, undef, undef, undef, undef, undef, undef, undef, .bool false] wy2 rfl hmY
            simp only [List.cons_append, List.nil_append, putAll, Act.put, List.setIfInBounds_toArray, List.set_cons_zero, List.set_cons_succ] at h
            exact h
      intro vs wy3 hvs hmY
      obtain ⟨x0, x1, x2, x3, x4, x5, x6, x7, x8, x9, x10, x11, rfl⟩ := list12 (show vs.length = 12 from by simpa using hvs)
      clear hvs
      simp only [List.cons_append, List.nil_append, putAll, Act.put, List.setIfInBounds_toArray, List.set_cons_zero, List.set_cons_succ]
      have HMX := hid_ (HMX.out.trans hmY (fun _ _ h => h))
      have HBY := hid_ (hmY.bk HBY.out id)
      obtain ⟨p0, p1⟩ : wy3.cell? ⟨bb, off + k * 2, none⟩ = some (.int .i64 p.x) ∧ wy3.cell? ⟨bb, off + k * 2 + 1, none⟩ = some (.int .i64 p.y) := ⟨(hmY.cell (p := ⟨bb, off + k * 2, none⟩) hbb id).trans p0, (hmY.cell (p := ⟨bb, off + k * 2 + 1, none⟩) hbb id).trans p1⟩
      have hbb : bb < wy3.heap.size := Nat.lt_of_lt_of_le hbb hmY.size
      clear hmY
      go_wp2_with fail
      refine wp_merge (.bool (f3 && beyB 3 b p)) (Mod Nothing wy3) ?_ ?_
      rotate_left
      · intro Q' HQ0
        have HQ := HQ0
        clear HQ0
        cases f3 with
        | true =>
          refine wp_region_late [(12, 12)] (.bool true) (fun γ => [.bool true, .bool true, .slice (some ⟨bb, off, none⟩) n c, .int .i64 k, .pointer (some ⟨bb, off + k * 2, none⟩), .pointer (some ⟨bb, off + k * 2 + 1, none⟩), .int .i64 p.y, .pointer (some ⟨w.heap.size, 2, none⟩), .pointer (some ⟨w.heap.size, 3, none⟩), .int .i64 b.hi.y, .bool (beyB 3 b p), .bool (beyB 3 b p), γ]) (LateC 12 wy3 (.bool true) (.bool (true && beyB 3 b p))) (by kernel_rfl) (by kernel_rfl)
            (fun γ => by simp only [putAll, Act.put, List.setIfInBounds_toArray, List.set_cons_zero, List.set_cons_succ]; rfl) ?_ ⟨(Mod.refl _ _).drew, fun _ => rfl, fun h => by simp at h, fun h => by simp at h⟩ ?_ ?_
          · intro L γ w' hC p hp hl
            simp only [List.mem_cons, List.not_mem_nil, or_false] at hp
            subst hp
            show some γ = some (.bool true)
            rw [hC.q hl]
          · refine ⟨?_, ?_, ?_, ?_, ?_, ?_, ?_, ?_, ?_, ?_, ?_, ?_, ?_, trivial⟩
            · intro L γ w' hun hw hC
              refine step_yes rfl ?_
              obtain rfl := hC.none hun
              have HC := hid_ hC
              clear hun hw hC
              go_simp
              exact turned _ rfl (HC.out.skip (i := 0) (by decide) (Mod.refl _ _))
            · intro L γ w' hun hw hC
              refine step_yes rfl ?_
              have HC := hid_ hC
              clear hun hw hC
              go_simp
              exact turned γ rfl (HC.out.skip (i := 1) (by decide) (Mod.refl _ _))
            · intro L γ w' hun hw hC
              refine step_yes rfl ?_
              have HC := hid_ hC
              clear hun hw hC
              go_simp
              exact turned γ rfl (HC.out.skip (i := 2) (by decide) (Mod.refl _ _))
            · intro L γ w' hun hw hC
              refine step_yes rfl ?_
              have HC := hid_ hC
              clear hun hw hC
              go_simp
              exact turned γ rfl (HC.out.skip (i := 3) (by decide) (Mod.refl _ _))
            · intro L γ w' hun hw hC
              refine step_yes rfl ?_
              have HC := hid_ hC
              clear hun hw hC
              go_simp
              exact turned γ rfl (HC.out.skip (i := 4) (by decide) (Mod.refl _ _))
            · intro L γ w' hun hw hC
              refine step_yes rfl ?_
              have HC := hid_ hC
              clear hun hw hC
              go_simp
              exact turned γ rfl (HC.out.skip (i := 5) (by decide) (Mod.refl _ _))
            · intro L γ w' hun hw hC
              refine step_yes rfl ?_
              have HC := hid_ hC
              have c0 := (HC.out.base.cell (p := ⟨bb, off + k * 2 + 1, none⟩) hbb id).trans p1
              clear hun hw hC
              go_simp
              exact turned γ rfl (HC.out.skip (i := 6) (by decide) (Mod.refl _ _))
            · intro L γ w' hun hw hC
              refine step_yes rfl ?_
              have HC := hid_ hC
              clear hun hw hC
              go_simp
              exact turned γ rfl (HC.out.skip (i := 7) (by decide) (Mod.refl _ _))
            · intro L γ w' hun hw hC
              refine step_yes rfl ?_
              have HC := hid_ hC
              clear hun hw hC
              go_simp
              exact turned γ rfl (HC.out.skip (i := 8) (by decide) (Mod.refl _ _))
            · intro L γ w' hun hw hC
              refine step_yes rfl ?_
              have HC := hid_ hC
              obtain ⟨d0, d1, d2, d3, -, -, -, -, hdl⟩ := (HC.out.base.bk HBY.out id).four
              clear hun hw hC
              go_simp
              exact turned γ rfl (HC.out.skip (i := 9) (by decide) (Mod.refl _ _))
            · intro L γ w' hun hw hC
              refine step_yes rfl ?_
              have HC := hid_ hC
              clear hun hw hC
              go_simp
              exact turned γ rfl (HC.out.skip (i := 10) (by decide) (Mod.refl _ _))
            · intro L γ w' hun hw hC
              refine step_yes rfl ?_
              have HC := hid_ hC
              clear hun hw hC
              go_simp
              exact turned γ rfl (HC.out.skip (i := 11) (by decide) (Mod.refl _ _))
            · intro L γ w' hun hw hC
              refine step_yes rfl ?_
              have h0 : L.getD 0 false = true := hw ⟨0, .phase⟩ (by simp) rfl
              have HC := hid_ (hC.last hun h0)
              clear hun hw hC h0
              go_simp
              exact turned _ rfl HC.out
          · intro L γ wy2 hall hC
            obtain rfl := hC.r (hall 12 (by decide))
            have hmY := hC.base
            clear hall hC
            have h := HQ [.bool true, .bool true, .slice (some ⟨bb, off, none⟩) n c, .int .i64 k, .pointer (some ⟨bb, off + k * 2, none⟩), .pointer (some ⟨bb, off + k * 2 + 1, none⟩), .int .i64 p.y, .pointer (some ⟨w.heap.size, 2, none⟩), .pointer (some ⟨w.heap.size, 3, none⟩), .int .i64 b.hi.y, .bool (beyB 3 b p), .bool (beyB 3 b p)] wy2 rfl hmY
            simp only [List.cons_append, List.nil_append, putAll, Act.put, List.setIfInBounds_toArray, List.set_cons_zero, List.set_cons_succ] at h
            exact h
        | false =>
          refine wp_region_late [(12, 12)] (.bool false) (fun γ => [.bool false, .bool false, undef, undef, undef, undef, undef, undef, undef, undef, undef, .bool false, γ]) (LateC 12 wy3 (.bool false) (.bool (false && beyB 3 b p))) (by kernel_rfl) (by kernel_rfl)
            (fun γ => by simp only [putAll, Act.put, List.setIfInBounds_toArray, List.set_cons_zero, List.set_cons_succ]; rfl) ?_ ⟨(Mod.refl _ _).drew, fun _ => rfl, fun h => by simp at h, fun h => by simp at h⟩ ?_ ?_
          · intro L γ w' hC p hp hl
            simp only [List.mem_cons, List.not_mem_nil, or_false] at hp
            subst hp
            show some γ = some (.bool false)
            rw [hC.q hl]
          · refine ⟨?_, ?_, ?_, ?_, ?_, ?_, ?_, ?_, ?_, ?_, ?_, ?_, ?_, trivial⟩
            · intro L γ w' hun hw hC
              refine step_yes rfl ?_
              obtain rfl := hC.none hun
              have HC := hid_ hC
              clear hun hw hC
              go_simp
              exact turned _ rfl (HC.out.skip (i := 0) (by decide) (Mod.refl _ _))
            · intro L γ w' hun hw hC
              refine step_yes rfl ?_
              have HC := hid_ hC
              clear hun hw hC
              go_simp
              exact turned γ rfl (HC.out.skip (i := 1) (by decide) (Mod.refl _ _))
            · intro L γ w' hun hw hC
              exact step_no rfl (turned γ rfl (hC.skip (i := 2) (by decide) (Mod.refl _ _)))
            · intro L γ w' hun hw hC
              exact step_no rfl (turned γ rfl (hC.skip (i := 3) (by decide) (Mod.refl _ _)))
            · intro L γ w' hun hw hC
              exact step_no rfl (turned γ rfl (hC.skip (i := 4) (by decide) (Mod.refl _ _)))
            · intro L γ w' hun hw hC
              exact step_no rfl (turned γ rfl (hC.skip (i := 5) (by decide) (Mod.refl _ _)))
            · intro L γ w' hun hw hC
              exact step_no rfl (turned γ rfl (hC.skip (i := 6) (by decide) (Mod.refl _ _)))
            · intro L γ w' hun hw hC
              exact step_no rfl (turned γ rfl (hC.skip (i := 7) (by decide) (Mod.refl _ _)))
            · intro L γ w' hun hw hC
              exact step_no rfl (turned γ rfl (hC.skip (i := 8) (by decide) (Mod.refl _ _)))
            · intro L γ w' hun hw hC
              exact step_no rfl (turned γ rfl (hC.skip (i := 9) (by decide) (Mod.refl _ _)))
            · intro L γ w' hun hw hC
              exact step_no rfl (turned γ rfl (hC.skip (i := 10) (by decide) (Mod.refl _ _)))
            · intro L γ w' hun hw hC
              refine step_yes rfl ?_
              have HC := hid_ hC
              clear hun hw hC
              go_simp
              exact turned γ rfl (HC.out.skip (i := 11) (by decide) (Mod.refl _ _))
            · intro L γ w' hun hw hC
              refine step_yes rfl ?_
              have h0 : L.getD 0 false = true := hw ⟨0, .phase⟩ (by simp) rfl
              have HC := hid_ (hC.last hun h0)
              clear hun hw hC h0
              go_simp
              exact turned _ rfl HC.out
          · intro L γ wy2 hall hC
            obtain rfl := hC.r (hall 12 (by decide))
            have hmY := hC.base
            clear hall hC
            have h := HQ [.bool false, .bool false, undef, undef, undef, undef, undef, undef, undef, undef, undef, .bool false] wy2 rfl hmY
            simp only [List.cons_append, List.nil_append, putAll, Act.put, List.setIfInBounds_toArray, List.set_cons_zero, List.set_cons_succ] at h
            exact h
      intro vs wy4 hvs hmY
      obtain ⟨x0, x1, x2, x3, x4, x5, x6, x7, x8, x9, x10, x11, rfl⟩ := list12 (show vs.length = 12 from by simpa using hvs)
      clear hvs
      simp only [List.cons_append, List.nil_append, putAll, Act.put, List.setIfInBounds_toArray, List.set_cons_zero, List.set_cons_succ]
      have HMX := hid_ (HMX.out.trans hmY (fun _ _ h => h))
      have HBY := hid_ (hmY.bk HBY.out id)
      obtain ⟨p0, p1⟩ : wy4.cell? ⟨bb, off + k * 2, none⟩ = some (.int .i64 p.x) ∧ wy4.cell? ⟨bb, off + k * 2 + 1, none⟩ = some (.int .i64 p.y) := ⟨(hmY.cell (p := ⟨bb, off + k * 2, none⟩) hbb id).trans p0, (hmY.cell (p := ⟨bb, off + k * 2 + 1, none⟩) hbb id).trans p1⟩
      have hbb : bb < wy4.heap.size := Nat.lt_of_lt_of_le hbb hmY.size
      clear hmY
      go_wp2_with fail
      go_roundw
      case rel => exact ⟨k + 1, by omega, by go_num, by rw [HALL.out, ← HFA.out], by rw [HALL.out, ← HF0.out], by rw [HALL.out, ← HF1.out], by rw [HALL.out, ← HF2.out], by rw [HALL.out, ← HF3.out], HMX.out⟩
      case measure => simp [intOf]; omega
    · have hkn : k = n := by omega
      subst hkn
      have htk : l.take k = l := List.take_of_length_le (by rw [HN.out]; exact Nat.le_refl _)
      rw [htk]
      clear htk
      obtain ⟨b0, b1, b2, b3, -, -, -, -, hbl⟩ := HBW.out.four
      have HLL := hid_ (show ∀ s, l.all (beyB s b) = true → lineF l b = [] from fun s h => lineF_bey (List.all_eq_true.1 h))
      have HRR := hid_ (show ∀ s, s < 4 → l.all (beyB s b) = true → ringF l b = [] from fun s hs h => ringF_bey hs (List.all_eq_true.1 h))
      have HLW := hid_ (show l.all (inB · b) = true → lineF l b = if 2 ≤ (dd l).length then [dd l] else [] from fun h => lineF_whole HBX.out (List.all_eq_true.1 h))
      have HRW := hid_ (show l.all (inB · b) = true → ringF l b = aroundF l from fun h => ringF_whole HBX.out (List.all_eq_true.1 h))
      obtain ⟨fa, hfa⟩ : ∃ fa, fa = l.all (inB · b) := ⟨_, rfl⟩
      obtain ⟨f0, hf0⟩ : ∃ f, f = l.all (beyB 0 b) := ⟨_, rfl⟩
      obtain ⟨f1, hf1⟩ : ∃ f, f = l.all (beyB 1 b) := ⟨_, rfl⟩
      obtain ⟨f2, hf2⟩ : ∃ f, f = l.all (beyB 2 b) := ⟨_, rfl⟩
      obtain ⟨f3, hf3⟩ : ∃ f, f = l.all (beyB 3 b) := ⟨_, rfl⟩
      rw [← hfa, ← hf0, ← hf1, ← hf2, ← hf3]
      rw [← hfa] at HLW HRW
      have HF0 := hid_ hf0
      have HF1 := hid_ hf1
      have HF2 := hid_ hf2
      have HF3 := hid_ hf3
      clear hfa hf0 hf1 hf2 hf3
      go_wp2_with fail
      refine (CL.out _ hn3 HMW.out).mono ?_
      rintro e w4 ⟨v, rfl, hp, hm4⟩
      obtain ⟨AV, cv, rfl, hrd⟩ := hp.rd
      have HM4 := hid_ (HMW.out.trans hm4 (fun _ _ h => h))
      have HB4 := hid_ (hm4.bk HBW.out id)
      have HR := hid_ hrd
      obtain ⟨ls, hls⟩ : ∃ ls, ls = lineF l b := ⟨_, rfl⟩
      rw [← hls] at HLL HLW HR ⊢
      clear hm4 hp hrd HMW HBW b0 b1 b2 b3 hbl hls
      obtain ⟨b0, b1, b2, b3, -, -, -, -, hbl⟩ := HB4.out.four
      go_wp2_with fail
      refine (CRG.out _ hn3 HM4.out).mono ?_
      rintro e w5 ⟨v, rfl, ho, -, hm5⟩
      obtain ⟨AR, cr, e5, hpr⟩ := ho.pv
      obtain ⟨rs, hrs⟩ : ∃ rs, rs = ringF l b := ⟨_, rfl⟩
      rw [← hrs] at HRR HRW hpr e5
      subst e5
      have HM5 := hid_ (HM4.out.trans hm5 (fun _ _ h => h))
      have HR5 := hid_ (HR.out.mod hm5)
      have HPR := hid_ hpr
      clear hm5 ho hpr hrs HR HM4 HB4 b0 b1 b2 b3 hbl
      cases f0 with
      | true =>
        obtain rfl := HLL.out 0 HF0.out.symm
        obtain rfl := HRR.out 0 (by decide) HF0.out.symm
        go_wp2
        go_returns
        exact ⟨rfl, HM5.out⟩
      | false =>
      cases f1 with
      | true =>
        obtain rfl := HLL.out 1 HF1.out.symm
        obtain rfl := HRR.out 1 (by decide) HF1.out.symm
        go_wp2
        go_returns
        exact ⟨rfl, HM5.out⟩
      | false =>
      cases f2 with
      | true =>
        obtain rfl := HLL.out 2 HF2.out.symm
        obtain rfl := HRR.out 2 (by decide) HF2.out.symm
        go_wp2
        go_returns
        exact ⟨rfl, HM5.out⟩
      | false =>
      cases f3 with
      | true =>
        obtain rfl := HLL.out 3 HF3.out.symm
        obtain rfl := HRR.out 3 (by decide) HF3.out.symm
        go_wp2
        go_returns
        exact ⟨rfl, HM5.out⟩
      | false =>
      cases fa with
      | false =>
        go_wp2
        go_returns
        exact ⟨rfl, HM5.out⟩
      | true =>
      have HLW2 := hid_ (HLW.out rfl)
      have hrw := HRW.out rfl
      subst hrw
      clear HLL HRR HLW HRW HF0 HF1 HF2 HF3
      go_wp2_with fail
      refine (CDF.out _ hn3 HM5.out).mono ?_
      rintro e w6 ⟨v, rfl, ho, hm6⟩
      obtain ⟨AD, cd, e6, hpd⟩ := ho.pv
      obtain ⟨ds, hds⟩ : ∃ ds, ds = dd l := ⟨_, rfl⟩
      have hdl : ds.length ≤ 200 := by rw [hds]; exact Nat.le_trans (dd_len_le l) (by rw [HN.out]; exact hn3)
      have hlw := HLW2.out
      rw [← hds] at hpd e6 hlw
      subst e6
      have HM6 := hid_ (HM5.out.trans hm6 (fun _ _ h => h))
      have HR6 := hid_ (HR5.out.mod hm6)
      have HPR6 := hid_ ((HPR.out.mod hm6 (Nat.le_refl _) (fun _ _ => id)).mono hm6.size)
      have HPD := hid_ hpd
      clear hm6 ho hpd hds HM5 HR5 HPR
      obtain ⟨nd, hnd⟩ : ∃ nd, ds.length = nd := ⟨_, rfl⟩
      rw [hnd] at hlw hdl
      have HND := hid_ hnd
      rw [hnd]
      clear hnd
      obtain ⟨ar, har⟩ : ∃ ar, ar = aroundF l := ⟨_, rfl⟩
      rw [← har] at HPR6 ⊢
      have harl : ar.length ≤ 200 := by rw [har]; exact Nat.le_trans (aroundF_len l) (by rw [HN.out]; exact hn3)
      have HAR := hid_ har
      clear har
      by_cases h2 : 2 ≤ nd
      · rw [if_pos h2] at hlw
        subst hlw
        obtain ⟨bb, off, A1, c1, hA1, hbb, p0, hpp⟩ := HR6.out 0 ds rfl
        subst hA1
        simp only [HND.out, Nat.add_zero, Nat.zero_mul] at p0
        have d1 : decide ((nd : Int) < 2) = false := decide_eq_false (by omega)
        have d2 : decide ((2 : Int) ≤ nd) = true := decide_eq_true (by omega)
        have CS := hid_ (same_any w6 A1 AD c1 cd nd nd ds ds HND.out HND.out hpp HPD.out (by omega) (by omega))
        rw [decide_eq_true (rfl : ds = ds)] at CS
        clear hpp
        go_wp2_with fail
        refine CS.out.mono ?_
        rintro e w7 ⟨rfl, hm7⟩
        have HM7 := hid_ (HM6.out.trans hm7 (fun _ _ h => h))
        have HPR7 := hid_ ((HPR6.out.mod hm7 (Nat.le_refl _) (fun _ _ => id)).mono hm7.size)
        clear hm7 p0 hbb HM6 HPR6 HR6
        go_wp2_with fail
        refine (CAR.out _ hn3 HM7.out).mono ?_
        rintro e w8 ⟨v, rfl, ho, hm8⟩
        obtain ⟨AA, ca, e8, hpa⟩ := ho.pv
        rw [← HAR.out] at e8 hpa
        subst e8
        have HM8 := hid_ (HM7.out.trans hm8 (fun _ _ h => h))
        have CS2 := hid_ (same_any _ AR AA cr ca ar.length ar.length ar ar rfl rfl ((HPR7.out.mod hm8 (Nat.le_refl _) (fun _ _ => id)).mono hm8.size) hpa (by omega) (by omega))
        rw [decide_eq_true (rfl : ar = ar)] at CS2
        clear hm8 ho hpa HM7 HPR7
        go_wp2_with fail
        refine CS2.out.mono ?_
        rintro e w9 ⟨rfl, hm9⟩
        have HM9 := hid_ (HM8.out.trans hm9 (fun _ _ h => h))
        clear hm9
        go_wp2
        go_returns
        exact ⟨rfl, HM9.out⟩
      · rw [if_neg h2] at hlw
        subst hlw
        have d1 : decide ((nd : Int) < 2) = true := decide_eq_true (by omega)
        have d2 : decide ((2 : Int) ≤ nd) = false := decide_eq_false (by omega)
        have HM7 := hid_ HM6.out
        have HPR7 := hid_ HPR6.out
        clear HM6 HPR6 HR6
        go_wp2_with fail
        refine (CAR.out _ hn3 HM7.out).mono ?_
        rintro e w8 ⟨v, rfl, ho, hm8⟩
        obtain ⟨AA, ca, e8, hpa⟩ := ho.pv
        rw [← HAR.out] at e8 hpa
        subst e8
        have HM8 := hid_ (HM7.out.trans hm8 (fun _ _ h => h))
        have CS2 := hid_ (same_any _ AR AA cr ca ar.length ar.length ar ar rfl rfl ((HPR7.out.mod hm8 (Nat.le_refl _) (fun _ _ => id)).mono hm8.size) hpa (by omega) (by omega))
        rw [decide_eq_true (rfl : ar = ar)] at CS2
        clear hm8 ho hpa HM7 HPR7
        go_wp2_with fail
        refine CS2.out.mono ?_
        rintro e w9 ⟨rfl, hm9⟩
        have HM9 := hid_ (HM8.out.trans hm9 (fun _ _ h => h))
        clear hm9
        go_wp2
        go_returns
        exact ⟨rfl, HM9.out⟩
end Go.Proofs.Ytadiajlegajclaa
