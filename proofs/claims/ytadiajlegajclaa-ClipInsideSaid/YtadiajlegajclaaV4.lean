/- ClipInside, walked. -/
import Derived.Test.YtadiajlegajclaaL3
import Derived.Test.YtadiajlegajclaaP3
set_option linter.unusedVariables false
set_option linter.unusedSimpArgs false
namespace Go.Proofs.Ytadiajlegajclaa
open Go.RowKit

set_option maxRecDepth 100000 in
set_option maxHeartbeats 8000000 in
theorem law4_any (w : World) (A : Option Addr) (c n : Nat) (l : List Pt) (b : Bx) (hn : l.length = n) (hl : PtsAt w w.heap.size A l) (hm : n ≤ maxLen) (hwf : ∀ p ∈ l, PtWf p) (hb : BxWf b) :
    Calls Try.prog 4 #[.slice A n c, bxV b] w (BPost true w) := by
  have CL := hid_ (fun w' (hn' : n ≤ 200) (hm' : Mod Nothing w w') => line_any (w := w') A c n l b hn ((hl.mod hm' (Nat.le_refl _) (fun _ _ => id)).mono hm'.size) (by omega) hwf hb)
  have CRG := hid_ (fun w' (hn' : n ≤ 200) (hm' : Mod Nothing w w') => ring_any (w := w') A c n l b hn ((hl.mod hm' (Nat.le_refl _) (fun _ _ => id)).mono hm'.size) (by omega) hwf hb)
  have HN := hid_ hn
  have heq := run_pt_eq
  have vm : (n : Int) ≤ 9223372036854775807 := by unfold maxLen at hm; omega
  clear hl hn hwf hb hm
  go_enter Try.func4, Try.ntmps4
  go_wp2_with fail
  have HB := hid_ (Bk.new w 26 [.int .i64 b.lo.x, .int .i64 b.lo.y, .int .i64 b.hi.x, .int .i64 b.hi.y])
  have HM0 := hid_ ((Mod.refl Nothing w).alloc (.cells #[.int .i64 b.lo.x, .int .i64 b.lo.y, .int .i64 b.hi.x, .int .i64 b.hi.y] 26))
  refine (head_any _).mono ?_
  rintro e w1 ⟨rfl, hm1⟩
  have HM1 := hid_ (HM0.out.trans hm1 (fun _ _ h => h))
  have HB1 := hid_ (hm1.bk HB.out id)
  clear hm1 HM0 HB
  by_cases hn2 : 200 < n
  · go_wp2
    go_returns
    exact ⟨rfl, HM1.out⟩
  have hn3 : n ≤ 200 := by omega
  obtain ⟨b0, b1, b2, b3, -, -, -, -, hbl⟩ := HB1.out.four
  go_wp2_with fail
  refine (CL.out _ hn3 HM1.out).mono ?_
  rintro e w2 ⟨v, rfl, hp, hm2⟩
  obtain ⟨AV, cv, rfl, hrd⟩ := hp.rd
  have HM2 := hid_ (HM1.out.trans hm2 (fun _ _ h => h))
  have HB2 := hid_ (hm2.bk HB1.out id)
  have HR := hid_ hrd
  have HPI := hid_ (lineF_in l b)
  have hpl : (lineF l b).length ≤ 201 := Nat.le_trans (lineF_len l b) (by rw [HN.out]; omega)
  have hpx : ∀ x ∈ lineF l b, x.length ≤ 400 := fun x hx => Nat.le_trans (lineF_each l b x hx) (by rw [HN.out]; omega)
  have HPX := hid_ hpx
  clear hm2 hp hrd HB1 HM1 b0 b1 b2 b3 hpx hbl
  go_wp2_with fail
  go_loopw [7] (fun v wr => ∃ k : Nat, k ≤ (lineF l b).length ∧ v = .int .i64 k ∧ Mod Nothing w2 wr) (fun v _ => (lineF l b).length - (intOf v).toNat)
  case atStart => exact ⟨0, Nat.zero_le _, rfl, Mod.refl _ _⟩
  case round =>
    obtain ⟨k, hk, rfl, hmd⟩ := hrel
    have HM := hid_ hmd
    have HMW := hid_ (HM2.out.trans hmd (fun _ _ h => h))
    have HB2 := hid_ (hmd.bk HB2.out id)
    have HR2 := hid_ (HR.out.mod hmd)
    clear hmd
    by_cases hlt : k < (lineF l b).length
    · obtain ⟨x, hx⟩ : ∃ x, (lineF l b)[k]? = some x := ⟨_, List.getElem?_eq_getElem hlt⟩
      obtain ⟨bb, off, A1, c1, hA1, hbb, p0, hpp⟩ := HR2.out k x hx
      obtain ⟨hxi, hx2⟩ := HPI.out x (List.mem_of_getElem? hx)
      have hx4 := HPX.out x (List.mem_of_getElem? hx)
      have CI := hid_ (fun w' (hm' : Mod Nothing wr w') => inside_any w' A1 c1 x.length x b rfl ((hpp.mod hm' (Nat.le_refl _) (fun _ _ => id)).mono hm'.size) (by omega) hxi)
      have v1 : (0 : Int) ≤ (k : Int) := by omega
      have v2 : (k : Int) < (lineF l b).length := by omega
      subst hA1
      clear hxi hpp hx
      go_wp2_with fail
      refine wp_region_stepsC [.slice (some ⟨bb, off, none⟩) (lineF l b).length cv, .int .i64 k, .pointer (some ⟨bb, off + k, none⟩), .slice A1 x.length c1, .int .i64 x.length, .bool false, .bool false, .slice (some ⟨bb, off, none⟩) (lineF l b).length cv, .int .i64 k, .pointer (some ⟨bb, off + k, none⟩), .slice A1 x.length c1, bxV b, .bool true, .bool false, .bool false] (Mod Nothing wr) (by kernel_rfl) (by kernel_rfl)
        (by simp only [putAll, Act.put, List.setIfInBounds_toArray, List.set_cons_zero, List.set_cons_succ]; rfl) ((Mod.refl _ _).drew) ?_ ?_
      · refine ⟨?_, ?_, ?_, ?_, ?_, ?_, ?_, ?_, ?_, ?_, ?_, ?_, ?_, ?_, ?_, trivial⟩
        · intro L w' hun hw hC
          refine step_yes rfl ?_
          have HC := hid_ hC
          clear hun hw hC
          go_simp
          exact still rfl HC.out
        · intro L w' hun hw hC
          refine step_yes rfl ?_
          have HC := hid_ hC
          clear hun hw hC
          go_simp
          exact still rfl HC.out
        · intro L w' hun hw hC
          refine step_yes rfl ?_
          have HC := hid_ hC
          clear hun hw hC
          go_simp
          exact still rfl HC.out
        · intro L w' hun hw hC
          refine step_yes rfl ?_
          have HC := hid_ hC
          have c0 := (HC.out.cell (p := ⟨bb, off + k, none⟩) hbb id).trans p0
          clear hun hw hC
          go_simp
          exact still rfl HC.out
        · intro L w' hun hw hC
          refine step_yes rfl ?_
          have HC := hid_ hC
          clear hun hw hC
          go_simp
          exact still rfl HC.out
        · intro L w' hun hw hC
          refine step_yes rfl ?_
          have HC := hid_ hC
          have hx2 : decide (((x.length : Nat) : Int) < 2) = false := decide_eq_false (by omega)
          clear hun hw hC
          go_simp
          exact still rfl HC.out
        · intro L w' hun hw hC
          refine step_yes rfl ?_
          have HC := hid_ hC
          clear hun hw hC
          go_simp
          exact still rfl HC.out
        · intro L w' hun hw hC
          refine step_yes rfl ?_
          have HC := hid_ hC
          clear hun hw hC
          go_simp
          exact still rfl HC.out
        · intro L w' hun hw hC
          refine step_yes rfl ?_
          have HC := hid_ hC
          clear hun hw hC
          go_simp
          exact still rfl HC.out
        · intro L w' hun hw hC
          refine step_yes rfl ?_
          have HC := hid_ hC
          clear hun hw hC
          go_simp
          exact still rfl HC.out
        · intro L w' hun hw hC
          refine step_yes rfl ?_
          have HC := hid_ hC
          have c0 := (HC.out.cell (p := ⟨bb, off + k, none⟩) hbb id).trans p0
          clear hun hw hC
          go_simp
          exact still rfl HC.out
        · intro L w' hun hw hC
          refine step_yes rfl ?_
          have HC := hid_ hC
          obtain ⟨b0, b1, b2, b3, -, -, -, -, hbl⟩ := (HC.out.bk HB2.out id).four
          clear hun hw hC
          go_simp
          exact still rfl HC.out
        · intro L w' hun hw hC
          refine step_yes rfl ?_
          have HC := hid_ hC
          clear hun hw hC
          go_simp
          refine (CI.out _ HC.out).mono ?_
          rintro e w3 ⟨rfl, hm⟩
          exact still rfl (HC.out.trans hm (fun _ _ h => h))
        · intro L w' hun hw hC
          refine step_yes rfl ?_
          have HC := hid_ hC
          clear hun hw hC
          go_simp
          exact still rfl HC.out
        · intro L w' hun hw hC
          refine step_yes rfl ?_
          have HC := hid_ hC
          clear hun hw hC
          go_simp
          exact still rfl HC.out
      · intro w2 hm2
        have HM2 := hid_ (HM.out.trans hm2 (fun _ _ h => h))
        clear hm2 p0
        go_wp2
        go_roundw
        case rel => exact ⟨k + 1, by omega, by go_num, HM2.out⟩
        case measure => simp [intOf]; omega
    · have hkn : k = (lineF l b).length := by omega
      subst hkn
      obtain ⟨b0, b1, b2, b3, -, -, -, -, hbl⟩ := HB2.out.four
      go_wp2_with fail
      refine (CRG.out _ hn3 HMW.out).mono ?_
      rintro e w5 ⟨v, rfl, hp, -, hm5⟩
      obtain ⟨AR, cr, rfl, hrd, _⟩ := hp.form
      have HM5 := hid_ (HMW.out.trans hm5 (fun _ _ h => h))
      have HB2 := hid_ (hm5.bk HB2.out id)
      have HRI := hid_ (ringF_in l b)
      obtain ⟨m, hmm⟩ : ∃ m, m = (ringF l b).length := ⟨_, rfl⟩
      rw [← hmm]
      have hml : m ≤ 6400 := by rw [hmm]; exact Nat.le_trans (ringF_len l b) (by rw [HN.out]; omega)
      have HMM := hid_ hmm
      clear hm5 hp hmm b0 b1 b2 b3 hbl
      by_cases hz : m = 0
      · subst hz
        go_wp2
        go_returns
        exact ⟨rfl, HM5.out⟩
      rcases HRI.out with he | ⟨hi, h3, hne⟩
      · exact absurd (by rw [HMM.out, he]; rfl) hz
      rw [← HMM.out] at h3
      have hmz : decide ((m : Int) = 0) = false := decide_eq_false (by omega)
      obtain ⟨p, hp⟩ : ∃ p, (ringF l b)[0]? = some p := ⟨_, List.getElem?_eq_getElem (by rw [← HMM.out]; omega)⟩
      obtain ⟨q, hq⟩ : ∃ q, (ringF l b)[m - 1]? = some q := ⟨_, List.getElem?_eq_getElem (by rw [← HMM.out]; omega)⟩
      obtain ⟨bb, off, hA, hbb, p0, p1⟩ := hrd 0 p hp
      obtain ⟨bb', off', hA', hbb', q0, q1⟩ := hrd (m - 1) q hq
      rw [hA] at hA'
      simp only [Option.some.injEq, Addr.mk.injEq] at hA'
      obtain ⟨rfl, rfl, -⟩ := hA'
      have HNE := hid_ (show ptEqB p q = false by
        cases e : ptEqB p q with
        | false => rfl
        | true =>
          exfalso
          apply hne
          rw [List.head?_eq_getElem?, List.getLast?_eq_getElem?, ← HMM.out, hp, hq, ptEqB_iff.1 e])
      have CR := hid_ (fun w' (hm' : Mod Nothing w5 w') => inside_any w' AR cr m (ringF l b) b HMM.out.symm ((hrd.mod hm' (Nat.le_refl _) (fun _ _ => id)).mono hm'.size) (by omega) hi)
      subst hA
      rw [Nat.zero_mul, Nat.add_zero] at p0 p1
      have v3 : IntKind.i64.wrap ((m : Int) - 1) = (m : Int) - 1 := IntWalk.i64_in _ (by omega)
      have v4 : ((m : Int) - 1).toNat = m - 1 := by omega
      have v5 : (0 : Int) ≤ (m : Int) - 1 := by omega
      have v6 : (m : Int) - 1 < m := by omega
      have v7 : (0 : Int) < m := by omega
      have v8 : 0 < m := by omega
      have v9 : (1 : Int) ≤ (m : Int) := by omega
      clear hrd hi hne hp hq hbb'
      go_wp2_with fail
      refine wp_region_stepsC [.bool true, .bool true, .slice (some ⟨bb, off, none⟩) m cr, .int .i64 m, .bool true, .bool true, .bool true, .slice (some ⟨bb, off, none⟩) m cr, bxV b, .bool true, .bool true, .bool true, .slice (some ⟨bb, off, none⟩) m cr, .pointer (some ⟨bb, off, none⟩), ptV p, .slice (some ⟨bb, off, none⟩) m cr, .slice (some ⟨bb, off, none⟩) m cr, .int .i64 m, .int .i64 ((m : Int) - 1), .pointer (some ⟨bb, off + (m - 1) * 2, none⟩), ptV q, .bool true, .bool true, .bool true] (Mod Nothing w5) (by kernel_rfl) (by kernel_rfl)
        (by simp only [putAll, Act.put, List.setIfInBounds_toArray, List.set_cons_zero, List.set_cons_succ]; rfl) ((Mod.refl _ _).drew) ?_ ?_
      · refine ⟨?_, ?_, ?_, ?_, ?_, ?_, ?_, ?_, ?_, ?_, ?_, ?_, ?_, ?_, ?_, ?_, ?_, ?_, ?_, ?_, ?_, ?_, ?_, ?_, trivial⟩
        · intro L w' hun hw hC
          refine step_yes rfl ?_
          have HC := hid_ hC
          clear hun hw hC
          go_simp
          exact still rfl HC.out
        · intro L w' hun hw hC
          refine step_yes rfl ?_
          have HC := hid_ hC
          clear hun hw hC
          go_simp
          exact still rfl HC.out
        · intro L w' hun hw hC
          refine step_yes rfl ?_
          have HC := hid_ hC
          clear hun hw hC
          go_simp
          exact still rfl HC.out
        · intro L w' hun hw hC
          refine step_yes rfl ?_
          have HC := hid_ hC
          clear hun hw hC
          go_simp
          exact still rfl HC.out
        · intro L w' hun hw hC
          refine step_yes rfl ?_
          have HC := hid_ hC
          have hx3 : decide (3 ≤ (m : Int)) = true := decide_eq_true (by omega)
          clear hun hw hC
          go_simp
          exact still rfl HC.out
        · intro L w' hun hw hC
          refine step_yes rfl ?_
          have HC := hid_ hC
          clear hun hw hC
          go_simp
          exact still rfl HC.out
        · intro L w' hun hw hC
          refine step_yes rfl ?_
          have HC := hid_ hC
          clear hun hw hC
          go_simp
          exact still rfl HC.out
        · intro L w' hun hw hC
          refine step_yes rfl ?_
          have HC := hid_ hC
          clear hun hw hC
          go_simp
          exact still rfl HC.out
        · intro L w' hun hw hC
          refine step_yes rfl ?_
          have HC := hid_ hC
          obtain ⟨b0, b1, b2, b3, -, -, -, -, hbl⟩ := (HC.out.bk HB2.out id).four
          clear hun hw hC
          go_simp
          exact still rfl HC.out
        · intro L w' hun hw hC
          refine step_yes rfl ?_
          have HC := hid_ hC
          clear hun hw hC
          go_simp
          refine (CR.out _ HC.out).mono ?_
          rintro e w3 ⟨rfl, hm⟩
          exact still rfl (HC.out.trans hm (fun _ _ h => h))
        · intro L w' hun hw hC
          refine step_yes rfl ?_
          have HC := hid_ hC
          clear hun hw hC
          go_simp
          exact still rfl HC.out
        · intro L w' hun hw hC
          refine step_yes rfl ?_
          have HC := hid_ hC
          clear hun hw hC
          go_simp
          exact still rfl HC.out
        · intro L w' hun hw hC
          refine step_yes rfl ?_
          have HC := hid_ hC
          clear hun hw hC
          go_simp
          exact still rfl HC.out
        · intro L w' hun hw hC
          refine step_yes rfl ?_
          have HC := hid_ hC
          clear hun hw hC
          go_simp
          exact still rfl HC.out
        · intro L w' hun hw hC
          refine step_yes rfl ?_
          have HC := hid_ hC
          have c0 := (HC.out.cell (p := ⟨bb, off, none⟩) hbb id).trans p0
          have c1 := (HC.out.cell (p := ⟨bb, off + 1, none⟩) hbb id).trans p1
          clear hun hw hC
          go_simp
          exact still rfl HC.out
        · intro L w' hun hw hC
          refine step_yes rfl ?_
          have HC := hid_ hC
          clear hun hw hC
          go_simp
          exact still rfl HC.out
        · intro L w' hun hw hC
          refine step_yes rfl ?_
          have HC := hid_ hC
          clear hun hw hC
          go_simp
          exact still rfl HC.out
        · intro L w' hun hw hC
          refine step_yes rfl ?_
          have HC := hid_ hC
          clear hun hw hC
          go_simp
          exact still rfl HC.out
        · intro L w' hun hw hC
          refine step_yes rfl ?_
          have HC := hid_ hC
          clear hun hw hC
          go_simp
          exact still rfl HC.out
        · intro L w' hun hw hC
          refine step_yes rfl ?_
          have HC := hid_ hC
          clear hun hw hC
          go_simp
          exact still rfl HC.out
        · intro L w' hun hw hC
          refine step_yes rfl ?_
          have HC := hid_ hC
          have c0 := (HC.out.cell (p := ⟨bb, off + (m - 1) * 2, none⟩) hbb id).trans q0
          have c1 := (HC.out.cell (p := ⟨bb, off + (m - 1) * 2 + 1, none⟩) hbb id).trans q1
          clear hun hw hC
          go_simp
          exact still rfl HC.out
        · intro L w' hun hw hC
          refine step_yes rfl ?_
          have HC := hid_ hC
          have hq3 := HNE.out
          clear hun hw hC
          go_simp
          exact still rfl HC.out
        · intro L w' hun hw hC
          refine step_yes rfl ?_
          have HC := hid_ hC
          clear hun hw hC
          go_simp
          exact still rfl HC.out
        · intro L w' hun hw hC
          refine step_yes rfl ?_
          have HC := hid_ hC
          clear hun hw hC
          go_simp
          exact still rfl HC.out
      · intro w6 hm6
        have HM6 := hid_ (HM5.out.trans hm6 (fun _ _ h => h))
        clear hm6 p0 p1 q0 q1
        go_wp2
        go_returns
        exact ⟨rfl, HM6.out⟩
end Go.Proofs.Ytadiajlegajclaa
