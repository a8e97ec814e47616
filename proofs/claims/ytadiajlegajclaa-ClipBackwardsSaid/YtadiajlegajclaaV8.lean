/- ClipBackwards, walked. -/
import Derived.Test.YtadiajlegajclaaL4
import Derived.Test.YtadiajlegajclaaP5
import Derived.Test.YtadiajlegajclaaV6
set_option linter.unusedVariables false
set_option linter.unusedSimpArgs false
namespace Go.Proofs.Ytadiajlegajclaa
open Go.RowKit

set_option maxRecDepth 100000 in
set_option maxHeartbeats 8000000 in
theorem law8_any (w : World) (A : Option Addr) (c n : Nat) (l : List Pt) (b : Bx) (hn : l.length = n) (hl : PtsAt w w.heap.size A l) (hm : n ≤ maxLen) (hwf : ∀ p ∈ l, PtWf p) (hb : BxWf b) :
    Calls Try.prog 8 #[.slice A n c, bxV b] w (BPost true w) := by
  have CL := hid_ (fun w' (hn' : n ≤ 200) (hm' : Mod Nothing w w') => line_any (w := w') A c n l b hn ((hl.mod hm' (Nat.le_refl _) (fun _ _ => id)).mono hm'.size) (by omega) hwf hb)
  have HN := hid_ hn
  have HL := hid_ hl
  have HWF := hid_ hwf
  have HBW := hid_ hb
  have vm : (n : Int) ≤ 9223372036854775807 := by unfold maxLen at hm; omega
  clear hl hn hwf hb hm
  go_enter Try.func8, Try.ntmps8
  go_wp2_with fail
  have HB := hid_ (Bk.new w 26 [.int .i64 b.lo.x, .int .i64 b.lo.y, .int .i64 b.hi.x, .int .i64 b.hi.y])
  have HM0 := hid_ ((Mod.refl Nothing w).alloc (.cells #[.int .i64 b.lo.x, .int .i64 b.lo.y, .int .i64 b.hi.x, .int .i64 b.hi.y] 26))
  refine (head_any _).mono ?_
  rintro e w1 ⟨rfl, hm1⟩
  have HM1 := hid_ (HM0.out.trans hm1 (fun _ _ h => h))
  have HB1 := hid_ (hm1.bk HB.out id)
  clear hm1 HM0 HB
  by_cases hn2 : 200 < n
  · go_wp2
    go_returns
    exact ⟨rfl, HM1.out⟩
  have hn3 : n ≤ 200 := by omega
  obtain ⟨b0, b1, b2, b3, -, -, -, -, hbl⟩ := HB1.out.four
  go_wp2_with fail
  refine (CL.out _ hn3 HM1.out).mono ?_
  rintro e w2 ⟨v, rfl, hp, hm2⟩
  obtain ⟨AV, cv, rfl, hrd⟩ := hp.rd
  have HM2 := hid_ (HM1.out.trans hm2 (fun _ _ h => h))
  have HB2 := hid_ (hm2.bk HB1.out id)
  have HR := hid_ hrd
  have hpl : (lineF l b).length ≤ 201 := Nat.le_trans (lineF_len l b) (by rw [HN.out]; omega)
  have hpx : ∀ x ∈ lineF l b, x.length ≤ 400 := fun x hx => Nat.le_trans (lineF_each l b x hx) (by rw [HN.out]; omega)
  have HPX := hid_ hpx
  have CBL := hid_ (fun w' (hm' : Mod Nothing w2.drew w') => backwards_any w' A c n l HN.out ((HL.out.mod (HM2.out.trans hm'.of_drew (fun _ _ h => h)) (Nat.le_refl _) (fun _ _ => id)).mono (Nat.le_trans HM2.out.size hm'.size)) (by omega))
  have CLR := hid_ (fun w' A4 c4 (h4 : PtsAt w' w'.heap.size A4 l.reverse) => line_any (w := w') A4 c4 l.reverse.length l.reverse b rfl h4 (by rw [List.length_reverse, HN.out]; omega) (fun p hp => HWF.out p (List.mem_reverse.1 hp)) HBW.out)
  clear hm2 hp hrd HB1 HM1 b0 b1 b2 b3 hpx hbl
  go_wp2_with fail
  refine wp_region_known (Kd.at [.no, .pts l.reverse, .no, .parts (lineF l.reverse b), .parts (lineF l.reverse b)]) (fun γ => [.slice A n c, γ 1, bxV b, γ 3, γ 4]) (by kernel_rfl) (by kernel_rfl)
    (fun γ => by simp only [putAll, Act.put, List.setIfInBounds_toArray, List.set_cons_zero, List.set_cons_succ]; rfl) (Kd.at_mod _) ?_ ?_
  · refine ⟨?_, ?_, ?_, ?_, ?_, trivial⟩
    · intro γ w' hm hk
      refine step_yes rfl ?_
      clear hk hm
      go_simp
      exact known undef rfl (Mod.refl _ _) trivial
    · intro γ w' hm hk
      refine step_yes rfl ?_
      have HC := hid_ (CBL.out w' hm)
      clear hk hm
      go_simp
      refine HC.out.mono ?_
      rintro e w3 ⟨v, rfl, ho, hm⟩
      exact known v rfl hm ho.pv
    · intro γ w' hm hk
      refine step_yes rfl ?_
      obtain ⟨b0, b1, b2, b3, -, -, -, -, hbl⟩ := (hm.bk HB2.out id).four
      clear hk hm
      go_simp
      exact known undef rfl (Mod.refl _ _) trivial
    · intro γ w' hm hk
      refine step_yes rfl ?_
      obtain ⟨A4, c4, e4, h4⟩ : PtsV w' (γ 1) l.reverse := hk ⟨1, .data⟩ (by simp) rfl
      have HC := hid_ (CLR.out w' A4 c4 h4)
      have E := hid_ e4
      clear hk hm e4 h4
      go_simp
      refine calls_args (by rw [E.out]) ?_
      refine HC.out.mono ?_
      rintro e w3 ⟨v, rfl, ho, hm⟩
      exact known v rfl hm ho.pv
    · intro γ w' hm hk
      refine step_yes rfl ?_
      have h5 : PartsV w' (γ 3) (lineF l.reverse b) := hk ⟨3, .data⟩ (by simp) rfl
      have H5 := hid_ h5
      clear hk hm h5
      go_simp
      refine known (γ 3) rfl (Mod.refl _ _) ?_
      exact H5.out
  · intro γ w3 hm3 hall
    obtain ⟨AV2, cv2, e2, hrd2⟩ : PartsV w3 (γ 4) (lineF l.reverse b) := hall 4 (by decide)
    have hlen : (lineF l.reverse b).length = (lineF l b).length := by rw [lineF_reverse]; simp
    rw [hlen] at e2
    have HM3 := hid_ (HM2.out.trans hm3 (fun _ _ h => h))
    have HB3 := hid_ (hm3.bk HB2.out id)
    have HR3 := hid_ (HR.out.mod hm3)
    have HRV := hid_ hrd2
    rw [e2]
    generalize γ 1 = t18
    generalize γ 3 = t20
    clear hm3 hall e2 hrd2 hlen HB2 HR
    go_wp2_with fail
    go_loopw [8] (fun v wr => ∃ k : Nat, k ≤ (lineF l b).length ∧ v = .int .i64 k ∧ Mod Nothing w3 wr) (fun v _ => (lineF l b).length - (intOf v).toNat)
    case atStart => exact ⟨0, Nat.zero_le _, rfl, Mod.refl _ _⟩
    case round =>
      obtain ⟨k, hk, rfl, hmd⟩ := hrel
      have HM := hid_ hmd
      have HMW := hid_ (HM3.out.trans hmd (fun _ _ h => h))
      have HR2 := hid_ (HR3.out.mod hmd)
      have HV2 := hid_ (HRV.out.mod hmd)
      clear hmd
      by_cases hlt : k < (lineF l b).length
      · obtain ⟨x, hx⟩ : ∃ x, (lineF l b)[k]? = some x := ⟨_, List.getElem?_eq_getElem hlt⟩
        obtain ⟨m, hm⟩ : ∃ m, m = (lineF l b).length - 1 - k := ⟨_, rfl⟩
        have hrx : (lineF l.reverse b)[m]? = some x.reverse := by
          rw [lineF_reverse, List.getElem?_reverse (by rw [List.length_map]; omega), List.length_map, List.getElem?_map]
          rw [show (lineF l b).length - 1 - m = k by omega, hx]
          rfl
        obtain ⟨bb, off, A1, c1, hA1, hbb, p0, hpp⟩ := HR2.out k x hx
        obtain ⟨b2, o2, A3, c3, hA3, hb2, q0, hqq⟩ := HV2.out m x.reverse hrx
        rw [List.length_reverse] at q0
        have hx4 := HPX.out x (List.mem_of_getElem? hx)
        have HPP := hid_ hpp
        have HQQ := hid_ hqq
        have CB := hid_ (fun w' (hm' : Mod Nothing wr.drew w') => backwards_any w' A1 c1 x.length x rfl ((HPP.out.mod hm'.of_drew (Nat.le_refl _) (fun _ _ => id)).mono hm'.size) (by omega))
        have CS := hid_ (fun w' A4 c4 (h4 : PtsAt w' w'.heap.size A4 x.reverse) (hm' : Mod Nothing wr.drew w') => same_any w' A4 A3 c4 c3 x.reverse.length x.length x.reverse x.reverse rfl (by simp) h4 ((HQQ.out.mod hm'.of_drew (Nat.le_refl _) (fun _ _ => id)).mono hm'.size) (by simp; omega) (by omega))
        rw [decide_eq_true (rfl : x.reverse = x.reverse)] at CS
        have v1 : (0 : Int) ≤ (k : Int) := by omega
        have v2 : (k : Int) < (lineF l b).length := by omega
        have v3 : IntKind.i64.wrap (((lineF l b).length : Int) - 1) = ((lineF l b).length : Int) - 1 := IntWalk.i64_in _ (by omega)
        have v4 : IntKind.i64.wrap (((lineF l b).length : Int) - 1 - k) = (m : Int) := by rw [IntWalk.i64_in _ (by omega)]; omega
        have v5 : (m : Int) < (lineF l b).length := by omega
        have v6 : (0 : Int) ≤ (m : Int) := by omega
        subst hA1
        subst hA3
        clear hpp hqq hx hrx hm
        go_wp2_with fail
        refine wp_region_known (Kd.at [.no, .no, .no, .no, .pts x.reverse, .no, .no, .no, .no, .no, .no, .no, .no, .no, .no]) (fun γ => [.slice (some ⟨bb, off, none⟩) (lineF l b).length cv, .int .i64 k, .pointer (some ⟨bb, off + k, none⟩), .slice A1 x.length c1, γ 4, .slice (some ⟨b2, o2, none⟩) (lineF l b).length cv2, .slice (some ⟨b2, o2, none⟩) (lineF l b).length cv2, .int .i64 (lineF l b).length, .int .i64 (((lineF l b).length : Int) - 1), .int .i64 k, .int .i64 m, .pointer (some ⟨b2, o2 + m, none⟩), .slice A3 x.length c3, .bool true, .bool false]) (by kernel_rfl) (by kernel_rfl)
          (fun γ => by simp only [putAll, Act.put, List.setIfInBounds_toArray, List.set_cons_zero, List.set_cons_succ]; rfl) (Kd.at_mod _) ?_ ?_
        · refine ⟨?_, ?_, ?_, ?_, ?_, ?_, ?_, ?_, ?_, ?_, ?_, ?_, ?_, ?_, ?_, trivial⟩
          · intro γ w' hm hk
            refine step_yes rfl ?_
            clear hk hm
            go_simp
            exact known undef rfl (Mod.refl _ _) trivial
          · intro γ w' hm hk
            refine step_yes rfl ?_
            clear hk hm
            go_simp
            exact known undef rfl (Mod.refl _ _) trivial
          · intro γ w' hm hk
            refine step_yes rfl ?_
            clear hk hm
            go_simp
            exact known undef rfl (Mod.refl _ _) trivial
          · intro γ w' hm hk
            refine step_yes rfl ?_
            have c0 := (hm.cell (p := ⟨bb, off + k, none⟩) hbb id).trans p0
            clear hk hm
            go_simp
            exact known undef rfl (Mod.refl _ _) trivial
          · intro γ w' hm hk
            refine step_yes rfl ?_
            have HC := hid_ (CB.out w' hm)
            clear hk hm
            go_simp
            refine HC.out.mono ?_
            rintro e w3 ⟨v, rfl, ho, hm⟩
            exact known v rfl hm ho.pv
          · intro γ w' hm hk
            refine step_yes rfl ?_
            clear hk hm
            go_simp
            exact known undef rfl (Mod.refl _ _) trivial
          · intro γ w' hm hk
            refine step_yes rfl ?_
            clear hk hm
            go_simp
            exact known undef rfl (Mod.refl _ _) trivial
          · intro γ w' hm hk
            refine step_yes rfl ?_
            clear hk hm
            go_simp
            exact known undef rfl (Mod.refl _ _) trivial
          · intro γ w' hm hk
            refine step_yes rfl ?_
            clear hk hm
            go_simp
            exact known undef rfl (Mod.refl _ _) trivial
          · intro γ w' hm hk
            refine step_yes rfl ?_
            clear hk hm
            go_simp
            exact known undef rfl (Mod.refl _ _) trivial
          · intro γ w' hm hk
            refine step_yes rfl ?_
            clear hk hm
            go_simp
            exact known undef rfl (Mod.refl _ _) trivial
          · intro γ w' hm hk
            refine step_yes rfl ?_
            clear hk hm
            go_simp
            exact known undef rfl (Mod.refl _ _) trivial
          · intro γ w' hm hk
            refine step_yes rfl ?_
            have c0 := (hm.cell (p := ⟨b2, o2 + m, none⟩) hb2 id).trans q0
            clear hk hm
            go_simp
            exact known undef rfl (Mod.refl _ _) trivial
          · intro γ w' hm hk
            refine step_yes rfl ?_
            obtain ⟨A4, c4, e4, h4⟩ : PtsV w' (γ 4) x.reverse := hk ⟨4, .data⟩ (by simp) rfl
            have HC := hid_ (CS.out w' A4 c4 h4 hm)
            have E := hid_ e4
            clear hk hm e4 h4
            go_simp
            refine calls_args (by rw [E.out]) ?_
            refine HC.out.mono ?_
            rintro e w3 ⟨rfl, hm⟩
            exact known undef rfl hm trivial
          · intro γ w' hm hk
            refine step_yes rfl ?_
            clear hk hm
            go_simp
            exact known undef rfl (Mod.refl _ _) trivial
        · intro γ w4 hm4 hall
          have HM2 := hid_ (HM.out.trans hm4 (fun _ _ h => h))
          generalize γ 4 = t36
          clear hm4 hall p0 q0
          go_wp2
          go_roundw
          case rel => exact ⟨k + 1, by omega, by go_num, HM2.out⟩
          case measure => simp [intOf]; omega
      · have hkn : k = (lineF l b).length := by omega
        subst hkn
        go_wp2
        go_returns
        exact ⟨rfl, HMW.out⟩
end Go.Proofs.Ytadiajlegajclaa
