/- ClipMatchesReference, walked. -/
import Derived.Test.YtadiajlegajclaaV6
import Derived.Test.YtadiajlegajclaaR7
set_option linter.unusedVariables false
set_option linter.unusedSimpArgs false
namespace Go.Proofs.Ytadiajlegajclaa
open Go.RowKit

set_option maxRecDepth 100000 in
set_option maxHeartbeats 16000000 in
theorem law3_any (w : World) (A : Option Addr) (c n : Nat) (l : List Pt) (b : Bx) (hn : l.length = n) (hl : PtsAt w w.heap.size A l) (hm : n ≤ maxLen) (hwf : ∀ p ∈ l, PtWf p) (hb : BxWf b) :
    Calls Try.prog 3 #[.slice A n c, bxV b] w (BPost true w) := by
  have CL := hid_ (fun w' (hn' : n ≤ 200) (hm' : Mod Nothing w w') => line_any (w := w') A c n l b hn ((hl.mod hm' (Nat.le_refl _) (fun _ _ => id)).mono hm'.size) (by omega) hwf hb)
  have CG := hid_ (fun w' (hn' : n ≤ 200) (hm' : Mod Nothing w w') => ring_any (w := w') A c n l b hn ((hl.mod hm' (Nat.le_refl _) (fun _ _ => id)).mono hm'.size) (by omega) hwf hb)
  have CRL := hid_ (fun w' (hn' : n ≤ 200) (hm' : Mod Nothing w w') => rline_any (w := w') A c n l b hn ((hl.mod hm' (Nat.le_refl _) (fun _ _ => id)).mono hm'.size) (by omega))
  have CRG := hid_ (fun w' (hn' : n ≤ 200) (hm' : Mod Nothing w w') => rring_any (w := w') A c n l b hn ((hl.mod hm' (Nat.le_refl _) (fun _ _ => id)).mono hm'.size) (by omega))
  have HLL := hid_ (show n ≤ 200 → (lineF l b).length ≤ 201 ∧ (ringF l b).length ≤ 3200 ∧ ∀ x ∈ lineF l b, x.length ≤ 100000000 from fun h => ⟨Nat.le_trans (lineF_len l b) (by omega), Nat.le_trans (ringF_len l b) (by omega), fun x hx => Nat.le_trans (lineF_each l b x hx) (by omega)⟩)
  obtain ⟨LL, hLL⟩ : ∃ LL, LL = lineF l b := ⟨_, rfl⟩
  obtain ⟨RR, hRR⟩ : ∃ RR, RR = ringF l b := ⟨_, rfl⟩
  rw [← hLL] at CL CRL HLL
  rw [← hRR] at CG CRG HLL
  have vm : (n : Int) ≤ 9223372036854775807 := by unfold maxLen at hm; omega
  clear hl hn hwf hb hm hLL hRR
  go_enter Try.func3, Try.ntmps3
  go_wp2_with fail
  have HB := hid_ (Bk.new w 26 [.int .i64 b.lo.x, .int .i64 b.lo.y, .int .i64 b.hi.x, .int .i64 b.hi.y])
  have HM0 := hid_ ((Mod.refl Nothing w).alloc (.cells #[.int .i64 b.lo.x, .int .i64 b.lo.y, .int .i64 b.hi.x, .int .i64 b.hi.y] 26))
  refine (head_any _).mono ?_
  rintro e w1 ⟨rfl, hm1⟩
  have HM1 := hid_ (HM0.out.trans hm1 (fun _ _ h => h))
  have HB1 := hid_ (hm1.bk HB.out id)
  clear hm1 HM0 HB
  by_cases hn2 : 200 < n
  · go_wp2
    go_returns
    exact ⟨rfl, HM1.out⟩
  have hn3 : n ≤ 200 := by omega
  obtain ⟨hl1, hl2, hl3⟩ := HLL.out hn3
  have HEA := hid_ hl3
  clear hl3
  go_wp2_with fail
  refine wp_region_known (Kd.at [.no, .no, .no, .no, .parts LL, .no, .no, .parts LL, .no, .no, .no, .no, .no, .pts RR, .no, .no, .pts RR, .no, .no, .no]) (fun γ => [.bool true, .bool true, .slice A n c, bxV b, γ 4, .slice A n c, bxV b, γ 7, .bool true, .bool true, .bool true, .slice A n c, bxV b, γ 13, .slice A n c, bxV b, γ 16, .bool true, .bool true, .bool true]) (by kernel_rfl) (by kernel_rfl)
    (fun γ => by simp only [putAll, Act.put, List.setIfInBounds_toArray, List.set_cons_zero, List.set_cons_succ]; rfl) (Kd.at_mod _) ?_ ?_
  · refine ⟨?_, ?_, ?_, ?_, ?_, ?_, ?_, ?_, ?_, ?_, ?_, ?_, ?_, ?_, ?_, ?_, ?_, ?_, ?_, ?_, trivial⟩
    · intro γ w' hm hk
      refine step_yes rfl ?_
      clear hk hm
      go_simp
      exact known undef rfl (Mod.refl _ _) trivial
    · intro γ w' hm hk
      refine step_yes rfl ?_
      clear hk hm
      go_simp
      exact known undef rfl (Mod.refl _ _) trivial
    · intro γ w' hm hk
      refine step_yes rfl ?_
      clear hk hm
      go_simp
      exact known undef rfl (Mod.refl _ _) trivial
    · intro γ w' hm hk
      refine step_yes rfl ?_
      obtain ⟨b0, b1, b2, b3, -, -, -, -, hbl⟩ := (hm.bk HB1.out id).four
      clear hk hm
      go_simp
      exact known undef rfl (Mod.refl _ _) trivial
    · intro γ w' hm hk
      refine step_yes rfl ?_
      have HC := hid_ (CL.out w' hn3 (HM1.out.trans hm.of_drew (fun _ _ h => h)))
      clear hk hm
      go_simp
      refine HC.out.mono ?_
      rintro e w3 ⟨v, rfl, ho, hm⟩
      exact known v rfl hm ho.pv
    · intro γ w' hm hk
      refine step_yes rfl ?_
      clear hk hm
      go_simp
      exact known undef rfl (Mod.refl _ _) trivial
    · intro γ w' hm hk
      refine step_yes rfl ?_
      obtain ⟨b0, b1, b2, b3, -, -, -, -, hbl⟩ := (hm.bk HB1.out id).four
      clear hk hm
      go_simp
      exact known undef rfl (Mod.refl _ _) trivial
    · intro γ w' hm hk
      refine step_yes rfl ?_
      have HC := hid_ (CRL.out w' hn3 (HM1.out.trans hm.of_drew (fun _ _ h => h)))
      clear hk hm
      go_simp
      refine HC.out.mono ?_
      rintro e w3 ⟨v, rfl, ho, hm⟩
      exact known v rfl hm ho.pv
    · intro γ w' hm hk
      refine step_yes rfl ?_
      obtain ⟨A4, c4, e4, h4⟩ : PartsV w' (γ 4) LL := hk ⟨4, .data⟩ (by simp) rfl
      obtain ⟨A7, c7, e7, h7⟩ : PartsV w' (γ 7) LL := hk ⟨7, .data⟩ (by simp) rfl
      have HC := hid_ (parts_any w' A4 A7 c4 c7 LL.length LL.length LL LL rfl rfl h4 h7 (by omega) (by omega) HEA.out HEA.out)
      rw [decide_eq_true (rfl : LL = LL)] at HC
      have E4 := hid_ e4
      have E7 := hid_ e7
      clear hk hm e4 h4 e7 h7
      go_simp
      refine calls_args (by rw [E4.out, E7.out]) ?_
      refine HC.out.mono ?_
      rintro e w3 ⟨rfl, hm⟩
      exact known undef rfl hm trivial
    · intro γ w' hm hk
      refine step_yes rfl ?_
      clear hk hm
      go_simp
      exact known undef rfl (Mod.refl _ _) trivial
    · intro γ w' hm hk
      refine step_yes rfl ?_
      clear hk hm
      go_simp
      exact known undef rfl (Mod.refl _ _) trivial
    · intro γ w' hm hk
      refine step_yes rfl ?_
      clear hk hm
      go_simp
      exact known undef rfl (Mod.refl _ _) trivial
    · intro γ w' hm hk
      refine step_yes rfl ?_
      obtain ⟨b0, b1, b2, b3, -, -, -, -, hbl⟩ := (hm.bk HB1.out id).four
      clear hk hm
      go_simp
      exact known undef rfl (Mod.refl _ _) trivial
    · intro γ w' hm hk
      refine step_yes rfl ?_
      have HC := hid_ (CG.out w' hn3 (HM1.out.trans hm.of_drew (fun _ _ h => h)))
      clear hk hm
      go_simp
      refine HC.out.mono ?_
      rintro e w3 ⟨v, rfl, ho, -, hm⟩
      exact known v rfl hm ho.pv
    · intro γ w' hm hk
      refine step_yes rfl ?_
      clear hk hm
      go_simp
      exact known undef rfl (Mod.refl _ _) trivial
    · intro γ w' hm hk
      refine step_yes rfl ?_
      obtain ⟨b0, b1, b2, b3, -, -, -, -, hbl⟩ := (hm.bk HB1.out id).four
      clear hk hm
      go_simp
      exact known undef rfl (Mod.refl _ _) trivial
    · intro γ w' hm hk
      refine step_yes rfl ?_
      have HC := hid_ (CRG.out w' hn3 (HM1.out.trans hm.of_drew (fun _ _ h => h)))
      clear hk hm
      go_simp
      refine HC.out.mono ?_
      rintro e w3 ⟨v, rfl, ho, hm⟩
      exact known v rfl hm ho.pv
    · intro γ w' hm hk
      refine step_yes rfl ?_
      obtain ⟨A4, c4, e4, h4⟩ : PtsV w' (γ 13) RR := hk ⟨13, .data⟩ (by simp) rfl
      obtain ⟨A7, c7, e7, h7⟩ : PtsV w' (γ 16) RR := hk ⟨16, .data⟩ (by simp) rfl
      have HC := hid_ (same_any w' A4 A7 c4 c7 RR.length RR.length RR RR rfl rfl h4 h7 (by omega) (by omega))
      rw [decide_eq_true (rfl : RR = RR)] at HC
      have E4 := hid_ e4
      have E7 := hid_ e7
      clear hk hm e4 h4 e7 h7
      go_simp
      refine calls_args (by rw [E4.out, E7.out]) ?_
      refine HC.out.mono ?_
      rintro e w3 ⟨rfl, hm⟩
      exact known undef rfl hm trivial
    · intro γ w' hm hk
      refine step_yes rfl ?_
      clear hk hm
      go_simp
      exact known undef rfl (Mod.refl _ _) trivial
    · intro γ w' hm hk
      refine step_yes rfl ?_
      clear hk hm
      go_simp
      exact known undef rfl (Mod.refl _ _) trivial
  · intro γ w4 hm4 hall
    have HM4 := hid_ (HM1.out.trans hm4 (fun _ _ h => h))
    generalize γ 4 = t4
    generalize γ 7 = t7
    generalize γ 13 = t13
    generalize γ 16 = t16
    clear hm4 hall
    go_wp2
    go_returns
    exact ⟨rfl, HM4.out⟩
end Go.Proofs.Ytadiajlegajclaa
