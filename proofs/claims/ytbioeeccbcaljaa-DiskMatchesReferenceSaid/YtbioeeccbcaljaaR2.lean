/- The reference disk: Read. -/
import Derived.Test.YtbioeeccbcaljaaR1
set_option linter.unusedVariables false
set_option linter.unusedSimpArgs false
namespace Go.Proofs.Ytbioeeccbcaljaa
open Go.RowKit

set_option maxHeartbeats 1000000 in
theorem rread_any {w : World} {G : RF} {A : DK} (h : RefAt w G A) (s : Int) : Calls Try.prog 19 #[rptr G, .int .i64 s] w (RPost (A.read s) w) := by
  obtain ⟨c0, c1, c2, c3, c4, c5, c6, f0, f1, f2, f3, f4, f5, f6, hd⟩ := h.head.seven
  unfold RF.sv at c0
  have H := hid_ h
  have hfew := h.ok.few
  have htop := h.ok.top
  clear h c3 c4 c5 c6 f0 f1 f2 f3 f4 f5 f6
  cases ho : A.off with
  | true =>
    rw [ho] at c2
    simp only [Bool.not_true] at c2
    have HO := hid_ ho
    clear ho
    go_enter Try.func19, Try.ntmps19
    go_wp2
    go_returns
    rw [DK.read, if_pos HO.out]
    exact ⟨rfl, Mod.refl _ _⟩
  | false =>
    rw [ho] at c2
    simp only [Bool.not_false] at c2
    have HO := hid_ ho
    clear ho
    by_cases h1 : s < 0
    · go_enter Try.func19, Try.ntmps19
      go_wp2
      go_returns
      rw [DK.read, if_neg (by rw [HO.out]; simp), if_neg (by omega)]
      exact ⟨rfl, Mod.refl _ _⟩
    by_cases h2 : (A.n : Int) ≤ s
    · go_enter Try.func19, Try.ntmps19
      go_wp2
      go_returns
      rw [DK.read, if_neg (by rw [HO.out]; simp), if_neg (by omega)]
      exact ⟨rfl, Mod.refl _ _⟩
    obtain ⟨i, rfl⟩ := Int.eq_ofNat_of_zero_le (Int.not_lt.1 h1)
    have hi : i < A.n := by omega
    have hc := H.out.srow.1 i hi
    rw [DK.read, if_neg (by rw [HO.out]; simp), if_pos (by omega), Int.toNat_natCast]
    obtain ⟨pv, hpv⟩ : ∃ pv, pv = G.pv := ⟨_, rfl⟩
    have HPV := hid_ hpv
    rw [← hpv] at c1
    obtain ⟨m, hm⟩ : ∃ m, m = A.q.length := ⟨_, rfl⟩
    have hform : ∃ ao cap, pv = .slice ao m cap := by
      rcases H.out.queue.2 with ⟨hv, hn⟩ | ⟨g, cap, cur, hv, _⟩
      · exact ⟨none, 0, by rw [hpv, hv, hm, hn]⟩
      · exact ⟨_, cap, by rw [hpv, hv, hm]⟩
    obtain ⟨ao, cap, hform⟩ := hform
    rw [hform] at c1
    have HF := hid_ hform
    have HM := hid_ hm
    rw [← hm] at hfew
    clear hform hm hpv
    go_enter Try.func19, Try.ntmps19
    go_wp2
    go_loop [6, 7] (fun out v => ∃ k : Nat, k ≤ m ∧ v = .int .i64 k ∧ out = .string (readQ (A.sec i) (A.q.take k) i)) (fun _ v => m - (intOf v).toNat)
    case atStart => exact ⟨0, Nat.zero_le _, rfl, rfl⟩
    case round =>
      obtain ⟨k, hk, rfl, rfl⟩ := hrel
      by_cases hlt : k < m
      · obtain ⟨p, hp⟩ : ∃ p, A.q[k]? = some p := ⟨_, List.getElem?_eq_getElem (by rw [← HM.out]; exact hlt)⟩
        obtain ⟨g, cap', hpv, hg, d0, d1⟩ := H.out.qrow hp
        rw [← HPV.out, HF.out, ← HM.out] at hpv
        injection hpv with e1 e2 e3
        subst e1
        subst e3
        have HP := hid_ hp
        have a1 : (0 : Int) ≤ k := by omega
        have a2 : (k : Int) < m := by omega
        clear hp
        by_cases hpi : p.1 = i
        · have hpi' : ((p.1 : Int) == (i : Int)) = true := by rw [hpi]; simp
          have HPI := hid_ hpi
          clear hpi
          go_wp2
          go_round
          case rel => exact ⟨k + 1, by omega, by go_num, by rw [readQ_succ _ _ _ _ _ HP.out, if_pos HPI.out]⟩
          case measure => simp [intOf]; omega
        · have hpi' : ((p.1 : Int) == (i : Int)) = false := by rw [beq_eq_false_iff_ne]; omega
          have HPI := hid_ hpi
          clear hpi
          go_wp2
          go_round
          case rel => exact ⟨k + 1, by omega, by go_num, by rw [readQ_succ _ _ _ _ _ HP.out, if_neg HPI.out]⟩
          case measure => simp [intOf]; omega
      · have hkm : k = m := by omega
        subst hkm
        go_wp2
        go_returns
        rw [List.take_of_length_le (by rw [← HM.out]; exact Nat.le_refl _)]
        exact ⟨rfl, Mod.refl _ _⟩

end Go.Proofs.Ytbioeeccbcaljaa
