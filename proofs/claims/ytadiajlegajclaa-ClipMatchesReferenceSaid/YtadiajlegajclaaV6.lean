/- ClipAgain, walked. -/
import Derived.Test.YtadiajlegajclaaL3
import Derived.Test.YtadiajlegajclaaP4
set_option linter.unusedVariables false
set_option linter.unusedSimpArgs false
namespace Go.Proofs.Ytadiajlegajclaa
open Go.RowKit

theorem Mod.of_drew {S : Nat → Prop} {w w' : World} (h : Mod S w.drew w') : Mod S w w' := ((Mod.refl S w).drew).trans h (fun _ _ h => h)
theorem BxWf.of_pts {l : List Pt} {b : Bx} (hb : BxWf b) (h : ∀ p ∈ l, inB p b = true) : ∀ p ∈ l, PtWf p := by
  intro p hp
  obtain ⟨⟨h1, h2⟩, ⟨h3, h4⟩⟩ := hb
  have := inB_iff.1 (h p hp)
  exact ⟨⟨by omega, by omega⟩, by omega, by omega⟩

set_option maxRecDepth 100000 in
set_option maxHeartbeats 8000000 in
theorem law6_any (w : World) (A : Option Addr) (c n : Nat) (l : List Pt) (b : Bx) (hn : l.length = n) (hl : PtsAt w w.heap.size A l) (hm : n ≤ maxLen) (hwf : ∀ p ∈ l, PtWf p) (hb : BxWf b) :
    Calls Try.prog 6 #[.slice A n c, bxV b] w (BPost true w) := by
  have CL := hid_ (fun w' (hn' : n ≤ 200) (hm' : Mod Nothing w w') => line_any (w := w') A c n l b hn ((hl.mod hm' (Nat.le_refl _) (fun _ _ => id)).mono hm'.size) (by omega) hwf hb)
  have CRG := hid_ (fun w' (hn' : n ≤ 200) (hm' : Mod Nothing w w') => ring_any (w := w') A c n l b hn ((hl.mod hm' (Nat.le_refl _) (fun _ _ => id)).mono hm'.size) (by omega) hwf hb)
  have HN := hid_ hn
  have HBW := hid_ hb
  have vm : (n : Int) ≤ 9223372036854775807 := by unfold maxLen at hm; omega
  clear hl hn hwf hb hm
  go_enter Try.func6, Try.ntmps6
  go_wp2_with fail
  have HB := hid_ (Bk.new w 26 [.int .i64 b.lo.x, .int .i64 b.lo.y, .int .i64 b.hi.x, .int .i64 b.hi.y])
  have HM0 := hid_ ((Mod.refl Nothing w).alloc (.cells #[.int .i64 b.lo.x, .int .i64 b.lo.y, .int .i64 b.hi.x, .int .i64 b.hi.y] 26))
  refine (head_any _).mono ?_
  rintro e w1 ⟨rfl, hm1⟩
  have HM1 := hid_ (HM0.out.trans hm1 (fun _ _ h => h))
  have HB1 := hid_ (hm1.bk HB.out id)
  clear hm1 HM0 HB
  by_cases hn2 : 200 < n
  · go_wp2
    go_returns
    exact ⟨rfl, HM1.out⟩
  have hn3 : n ≤ 200 := by omega
  obtain ⟨b0, b1, b2, b3, -, -, -, -, hbl⟩ := HB1.out.four
  go_wp2_with fail
  refine (CL.out _ hn3 HM1.out).mono ?_
  rintro e w2 ⟨v, rfl, hp, hm2⟩
  obtain ⟨AV, cv, rfl, hrd⟩ := hp.rd
  have HM2 := hid_ (HM1.out.trans hm2 (fun _ _ h => h))
  have HB2 := hid_ (hm2.bk HB1.out id)
  have HR := hid_ hrd
  have hpl : (lineF l b).length ≤ 201 := Nat.le_trans (lineF_len l b) (by rw [HN.out]; omega)
  have hpx : ∀ x ∈ lineF l b, x.length ≤ 400 := fun x hx => Nat.le_trans (lineF_each l b x hx) (by rw [HN.out]; omega)
  have HPX := hid_ hpx
  clear hm2 hp hrd HB1 HM1 b0 b1 b2 b3 hpx hbl
  go_wp2_with fail
  go_loopw [7, 8] (fun v u wr => ∃ k : Nat, k ≤ (lineF l b).length ∧ v = .int .i64 k ∧ Mod Nothing w2 wr) (fun v u _ => (lineF l b).length - (intOf v).toNat)
  case atStart => exact ⟨0, Nat.zero_le _, rfl, Mod.refl _ _⟩
  case round =>
    obtain ⟨k, hk, rfl, hmd⟩ := hrel
    have HM := hid_ hmd
    have HMW := hid_ (HM2.out.trans hmd (fun _ _ h => h))
    have HB2 := hid_ (hmd.bk HB2.out id)
    have HR2 := hid_ (HR.out.mod hmd)
    clear hmd
    by_cases hlt : k < (lineF l b).length
    · obtain ⟨x, hx⟩ : ∃ x, (lineF l b)[k]? = some x := ⟨_, List.getElem?_eq_getElem hlt⟩
      obtain ⟨bb, off, A1, c1, hA1, hbb, p0, hpp⟩ := HR2.out k x hx
      have hmem := List.mem_of_getElem? hx
      have hag := lineF_again hmem
      have hwx := HBW.out.of_pts (lineF_in l b x hmem).1.all
      have hx4 := HPX.out x hmem
      have HPP := hid_ hpp
      have CI := hid_ (fun w' (hm' : Mod Nothing wr.drew w') => line_any (w := w') A1 c1 x.length x b rfl ((HPP.out.mod hm'.of_drew (Nat.le_refl _) (fun _ _ => id)).mono hm'.size) (by omega) hwx HBW.out)
      rw [hag] at CI
      have v1 : (0 : Int) ≤ (k : Int) := by omega
      have v2 : (k : Int) < (lineF l b).length := by omega
      subst hA1
      clear hpp hx hag hwx hmem
      go_wp2_with fail
      refine wp_region_known (Kd.at [.no, .no, .no, .no, .no, .parts [x], .parts [x]]) (fun γ => [.slice (some ⟨bb, off, none⟩) (lineF l b).length cv, .int .i64 k, .pointer (some ⟨bb, off + k, none⟩), .slice A1 x.length c1, bxV b, γ 5, γ 6]) (by kernel_rfl) (by kernel_rfl)
        (fun γ => by simp only [putAll, Act.put, List.setIfInBounds_toArray, List.set_cons_zero, List.set_cons_succ]; rfl) (Kd.at_mod _) ?_ ?_
      · refine ⟨?_, ?_, ?_, ?_, ?_, ?_, ?_, trivial⟩
        · intro γ w' hm hk
          refine step_yes rfl ?_
          clear hk hm
          go_simp
          exact known undef rfl (Mod.refl _ _) trivial
        · intro γ w' hm hk
          refine step_yes rfl ?_
          clear hk hm
          go_simp
          exact known undef rfl (Mod.refl _ _) trivial
        · intro γ w' hm hk
          refine step_yes rfl ?_
          clear hk hm
          go_simp
          exact known undef rfl (Mod.refl _ _) trivial
        · intro γ w' hm hk
          refine step_yes rfl ?_
          have c0 := (hm.cell (p := ⟨bb, off + k, none⟩) hbb id).trans p0
          clear hk hm
          go_simp
          exact known undef rfl (Mod.refl _ _) trivial
        · intro γ w' hm hk
          refine step_yes rfl ?_
          obtain ⟨b0, b1, b2, b3, -, -, -, -, hbl⟩ := (hm.bk HB2.out id).four
          clear hk hm
          go_simp
          exact known undef rfl (Mod.refl _ _) trivial
        · intro γ w' hm hk
          refine step_yes rfl ?_
          have HC := hid_ (CI.out w' hm)
          clear hk hm
          go_simp
          refine HC.out.mono ?_
          rintro e w3 ⟨v, rfl, ho, hm⟩
          exact known v rfl hm ho.pv
        · intro γ w' hm hk
          refine step_yes rfl ?_
          have h5 : PartsV w' (γ 5) [x] := hk ⟨5, .data⟩ (by simp) rfl
          have H5 := hid_ h5
          clear hk hm h5
          go_simp
          refine known (γ 5) rfl (Mod.refl _ _) ?_
          exact H5.out
      · intro γ w3 hm3 hall
        obtain ⟨A2, c2, e2, hr2⟩ : PartsV w3 (γ 6) [x] := hall 6 (by decide)
        have e2' : γ 6 = .slice A2 1 c2 := e2
        rw [e2']
        obtain ⟨b2, o2, A3, c3, hA2, hb2, q0, hqq⟩ := hr2 0 x rfl
        rw [Nat.add_zero] at q0
        subst hA2
        have p0 := (hm3.cell (p := ⟨bb, off + k, none⟩) hbb id).trans p0
        have hbb : bb < w3.heap.size := Nat.lt_of_lt_of_le hbb hm3.size
        have HM3 := hid_ (HM.out.trans hm3 (fun _ _ h => h))
        have hpp3 := (HPP.out.mod hm3 (Nat.le_refl _) (fun _ _ => id)).mono hm3.size
        have CS := hid_ (fun w' (hm' : Mod Nothing w3 w') => same_any w' A3 A1 c3 c1 x.length x.length x x rfl rfl ((hqq.mod hm' (Nat.le_refl _) (fun _ _ => id)).mono hm'.size) ((hpp3.mod hm' (Nat.le_refl _) (fun _ _ => id)).mono hm'.size) (by omega) (by omega))
        rw [decide_eq_true (rfl : x = x)] at CS
        generalize γ 5 = t29
        clear hm3 hall e2 e2' hr2 hqq hpp3
        go_wp2_with fail
        refine wp_region_stepsC [.slice (some ⟨b2, o2, none⟩) 1 c2, .int .i64 1, .bool false, .bool false, .slice (some ⟨b2, o2, none⟩) 1 c2, .pointer (some ⟨b2, o2, none⟩), .slice A3 x.length c3, .slice (some ⟨bb, off, none⟩) (lineF l b).length cv, .int .i64 k, .pointer (some ⟨bb, off + k, none⟩), .slice A1 x.length c1, .bool true, .bool false, .bool false] (Mod Nothing w3) (by kernel_rfl) (by kernel_rfl)
          (by simp only [putAll, Act.put, List.setIfInBounds_toArray, List.set_cons_zero, List.set_cons_succ]; rfl) ((Mod.refl _ _).drew) ?_ ?_
        · refine ⟨?_, ?_, ?_, ?_, ?_, ?_, ?_, ?_, ?_, ?_, ?_, ?_, ?_, ?_, trivial⟩
          · intro L w' hun hw hC
            refine step_yes rfl ?_
            have HC := hid_ hC
            clear hun hw hC
            go_simp
            exact still rfl HC.out
          · intro L w' hun hw hC
            refine step_yes rfl ?_
            have HC := hid_ hC
            clear hun hw hC
            go_simp
            exact still rfl HC.out
          · intro L w' hun hw hC
            refine step_yes rfl ?_
            have HC := hid_ hC
            clear hun hw hC
            go_simp
            exact still rfl HC.out
          · intro L w' hun hw hC
            refine step_yes rfl ?_
            have HC := hid_ hC
            clear hun hw hC
            go_simp
            exact still rfl HC.out
          · intro L w' hun hw hC
            refine step_yes rfl ?_
            have HC := hid_ hC
            clear hun hw hC
            go_simp
            exact still rfl HC.out
          · intro L w' hun hw hC
            refine step_yes rfl ?_
            have HC := hid_ hC
            clear hun hw hC
            go_simp
            exact still rfl HC.out
          · intro L w' hun hw hC
            refine step_yes rfl ?_
            have HC := hid_ hC
            have c0 := (HC.out.cell (p := ⟨b2, o2, none⟩) hb2 id).trans q0
            clear hun hw hC
            go_simp
            exact still rfl HC.out
          · intro L w' hun hw hC
            refine step_yes rfl ?_
            have HC := hid_ hC
            clear hun hw hC
            go_simp
            exact still rfl HC.out
          · intro L w' hun hw hC
            refine step_yes rfl ?_
            have HC := hid_ hC
            clear hun hw hC
            go_simp
            exact still rfl HC.out
          · intro L w' hun hw hC
            refine step_yes rfl ?_
            have HC := hid_ hC
            clear hun hw hC
            go_simp
            exact still rfl HC.out
          · intro L w' hun hw hC
            refine step_yes rfl ?_
            have HC := hid_ hC
            have c0 := (HC.out.cell (p := ⟨bb, off + k, none⟩) hbb id).trans p0
            clear hun hw hC
            go_simp
            exact still rfl HC.out
          · intro L w' hun hw hC
            refine step_yes rfl ?_
            have HC := hid_ hC
            clear hun hw hC
            go_simp
            refine (CS.out _ HC.out).mono ?_
            rintro e w3 ⟨rfl, hm⟩
            exact still rfl (HC.out.trans hm (fun _ _ h => h))
          · intro L w' hun hw hC
            refine step_yes rfl ?_
            have HC := hid_ hC
            clear hun hw hC
            go_simp
            exact still rfl HC.out
          · intro L w' hun hw hC
            refine step_yes rfl ?_
            have HC := hid_ hC
            clear hun hw hC
            go_simp
            exact still rfl HC.out
        · intro w4 hm4
          have HM2 := hid_ (HM3.out.trans hm4 (fun _ _ h => h))
          clear hm4 p0 q0
          go_wp2
          go_roundw
          case rel => exact ⟨k + 1, by omega, by go_num, HM2.out⟩
          case measure => simp [intOf]; omega
    · have hkn : k = (lineF l b).length := by omega
      subst hkn
      obtain ⟨b0, b1, b2, b3, -, -, -, -, hbl⟩ := HB2.out.four
      go_wp2_with fail
      refine (CRG.out _ hn3 HMW.out).mono ?_
      rintro e w5 ⟨v, rfl, hp, -, hm5⟩
      obtain ⟨AR, cr, rfl, hrd, _⟩ := hp.form
      have HM5 := hid_ (HMW.out.trans hm5 (fun _ _ h => h))
      have HB2 := hid_ (hm5.bk HB2.out id)
      clear b0 b1 b2 b3 hbl
      obtain ⟨m, hmm⟩ : ∃ m, m = (ringF l b).length := ⟨_, rfl⟩
      rw [← hmm]
      have hml : m ≤ 3200 := by rw [hmm]; exact Nat.le_trans (ringF_len l b) (by rw [HN.out]; omega)
      have HMM := hid_ hmm
      have hwr : ∀ p ∈ ringF l b, PtWf p := by
        rcases ringF_in l b with e | ⟨h, _⟩
        · rw [e]; intro p hp; simp at hp
        · exact HBW.out.of_pts h.all
      have HRD := hid_ hrd
      have CR := hid_ (fun w' (hm' : Mod Nothing w5 w') => ring_any (w := w') AR cr m (ringF l b) b HMM.out.symm ((HRD.out.mod hm' (Nat.le_refl _) (fun _ _ => id)).mono hm'.size) (by omega) hwr HBW.out)
      rw [ringF_again] at CR
      have CS := hid_ (fun w' A4 c4 (h4 : PtsAt w' w'.heap.size A4 (ringF l b)) (hm' : Mod Nothing w5 w') => same_any w' A4 AR c4 cr (ringF l b).length m (ringF l b) (ringF l b) rfl HMM.out.symm h4 ((HRD.out.mod hm' (Nat.le_refl _) (fun _ _ => id)).mono hm'.size) (by rw [← HMM.out]; omega) (by omega))
      rw [decide_eq_true (rfl : ringF l b = ringF l b)] at CS
      obtain ⟨b0, b1, b2, b3, -, -, -, -, hbl⟩ := HB2.out.four
      clear hm5 hp hmm hrd hwr
      go_wp2_with fail
      refine (CR.out w5 (Mod.refl _ w5)).mono ?_
      rintro e w6 ⟨v, rfl, ho, -, hm6⟩
      obtain ⟨A4, c4, rfl, h4⟩ := ho.pv
      have HC := hid_ (CS.out _ A4 c4 h4 hm6)
      have HM6 := hid_ (HM5.out.trans hm6 (fun _ _ h => h))
      clear hm6 ho h4 b0 b1 b2 b3 hbl
      go_wp2_with fail
      refine HC.out.mono ?_
      rintro e w7 ⟨rfl, hm7⟩
      have HM7 := hid_ (HM6.out.trans hm7 (fun _ _ h => h))
      clear hm7
      go_wp2
      go_returns
      exact ⟨rfl, HM7.out⟩
end Go.Proofs.Ytadiajlegajclaa
