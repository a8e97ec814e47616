/- DiskAll: the walk. -/
import Derived.Test.YtbioeeccbcaljaaC1
set_option linter.unusedVariables false
set_option linter.unusedSimpArgs false
namespace Go.Proofs.Ytbioeeccbcaljaa
open Go.RowKit

theorem okB_text {l : List Ac} (h : okB l = true) {a : Ac} (ha : a ∈ l) : a.text.size ≤ 1000 := by
  simp only [okB, Bool.and_eq_true, List.all_eq_true, decide_eq_true_eq] at h
  have := h.1 a ha; omega
theorem okB_len {l : List Ac} (h : okB l = true) : l.length ≤ 60 := by
  simp only [okB, Bool.and_eq_true, decide_eq_true_eq] at h
  exact h.2

/-- The number of sectors. -/
def secs (r : Nat) : Nat := 1 + r % 12

theorem allLaw (A : DK) (hq : A.q.length ≤ 60) (bytes more : Int) :
    A.start.sync.1 = 0 ∧ ((A.start.cut 60 bytes).cut more bytes).start.start = (A.start.sync.2.cut 0 bytes).start := by
  have h1 : A.start.sync = (0, { A.start with st := settleL A.st A.q, q := [] }) := by simp [DK.sync, DK.start, DK.count]
  have hc : clampN 60 A.q.length = A.q.length := by unfold clampN; omega
  have h2 : A.start.cut 60 bytes = ⟨A.n, settleL A.st A.q, [], true, none⟩ := by
    simp [DK.cut, DK.start, hc, tornSt]
  rw [h1, h2]
  refine ⟨rfl, ?_⟩
  simp [DK.cut, DK.start, tornSt, clampN, settleL]

set_option maxRecDepth 100000 in
set_option maxHeartbeats 4000000 in
theorem all_walk (r : Nat) (hr : r < 256) (A : Option Addr) (c n : Nat) (l : List Ac) (hn : l.length = n) (hm : n ≤ 9223372036854775807) (bytes more : Int) (w : World) (hl : ActsAt w w.heap.size A l) (hwf : ∀ a ∈ l, Ac.Wf a) :
    Calls Try.prog 7 #[.int .u8 (r : Int), .slice A n c, .int .i64 bytes, .int .i64 more] w fun e w' => e = .returned (.bool true) ∧ Below w.heap.size w w' := by
  have HL := hid_ hl
  have HN := hid_ hn
  have HW := hid_ hwf
  clear hl hn hwf
  go_enter Try.func7, Try.ntmps7
  go_wp2_with fail
  refine (head_any w).mono ?_
  rintro e w1 ⟨rfl, hm1⟩
  have HM1 := hid_ (hm1.mono (S' := From w.heap.size) (fun _ _ => False.elim))
  have HL1 := hid_ (HL.out.keep (fun k hk => hm1.block k hk id))
  clear hm1
  cases hok : okB l with
  | false =>
    go_wp2_with fail
    refine (ok_any w1 w.heap.size A l c n HN.out HL1.out hm).mono ?_
    rw [hok]
    rintro e w2 ⟨rfl, rfl⟩
    clear hok
    go_wp2_with fail
    go_returns
    exact ⟨rfl, HM1.out.below (Nat.le_refl _) (fun i hi h => absurd h (Nat.not_le.2 hi))⟩
  | true =>
    go_wp2_with fail
    refine (ok_any w1 w.heap.size A l c n HN.out HL1.out hm).mono ?_
    rw [hok]
    rintro e w2 ⟨rfl, rfl⟩
    have HOK := hid_ hok
    clear hok
    go_wp2_with fail
    refine (size_any r _ hr).mono ?_
    rintro e w2 ⟨rfl, rfl⟩
    have hs1 : 1 ≤ secs r := by unfold secs; omega
    have hs2 : secs r ≤ 8000 := by unfold secs; omega
    rw [show 1 + r % 12 = secs r from rfl]
    obtain ⟨s, hs⟩ : ∃ s, s = secs r := ⟨_, rfl⟩
    rw [← hs] at hs1 hs2 ⊢
    clear hs
    go_wp2_with fail
    refine (new_any s _ hs1 hs2).mono ?_
    rintro e w3 ⟨Fa, rfl, hfa, hda, hm3⟩
    have HDA := hid_ hda
    have HFA := hid_ (fun k hk => Nat.le_trans HM1.out.size (hfa k hk) : ∀ k, Fa.has k → w.heap.size ≤ k)
    have HM3 := hid_ (HM1.out.trans hm3 (fun _ _ => False.elim))
    clear hfa hda hm3
    go_wp2_with fail
    refine (new_any s _ hs1 hs2).mono ?_
    rintro e w4 ⟨Fb, rfl, hfb, hdb, hm4⟩
    have HT := hid_ (Two.news (N := w.heap.size) HDA.out HFA.out hdb hfb hm4 HM3.out.size)
    have HM4 := hid_ (HM3.out.trans hm4 (fun _ _ => False.elim))
    clear hfb hdb hm4
    obtain ⟨da, hda⟩ : ∃ da, da = Fa.d := ⟨_, rfl⟩
    obtain ⟨db, hdb⟩ : ∃ db, db = Fb.d := ⟨_, rfl⟩
    rw [← hda, ← hdb] at HT
    simp only [dptr]
    rw [← hda, ← hdb]
    clear hda hdb HDA HFA
    go_wp2_with fail
    go_loopw [13] (fun v wr => ∃ k : Nat, k ≤ n ∧ v = .int .i64 k ∧ Two w.heap.size da db ((DK.new s).acts (l.take k)) ((DK.new s).acts (l.take k)) wr ∧ Mod (From w.heap.size) w wr) (fun v _ => n - (intOf v).toNat)
    case atStart => exact ⟨0, Nat.zero_le _, rfl, HT.out, HM4.out⟩
    case round =>
      obtain ⟨k, hk, rfl, htwo, hmod⟩ := hrel
      have HT := hid_ htwo
      have HM := hid_ hmod
      clear htwo hmod
      by_cases hlt : k < n
      · obtain ⟨a, ha⟩ : ∃ a, l[k]? = some a := ⟨_, List.getElem?_eq_getElem (by rw [HN.out]; exact hlt)⟩
        have hal : a ∈ l := List.mem_of_getElem? ha
        have ht := okB_text HOK.out hal
        have hwa := (HW.out a hal).after
        have hq : ((DK.new s).acts (l.take k)).q.length < 1000000 := by
          have h1 := DK.acts_q (l.take k) (DK.new s)
          have h2 := okB_len HOK.out
          rw [List.length_take] at h1
          have h3 : (DK.new s).q.length = 0 := rfl
          omega
        have HQ := hid_ hq
        have HWA := hid_ hwa
        have HTX := hid_ ht
        obtain ⟨b, off, hA, hb, c0, c1, c2, c3, c4, c5⟩ := (HL.out.keep (fun k hk => HM.out.block k hk (Nat.not_le.2 hk))).six ha
        have HA := hid_ ha
        subst hA
        clear ha hal ht hwa hq
        go_wp2_with fail
        refine (doL HT.out HM.out.size a HTX.out HWA.out HQ.out).mono ?_
        rintro e w5 ⟨rfl, ht5, hm5⟩
        have HT5 := hid_ ht5
        have HM5 := hid_ (HM.out.trans hm5 (fun _ _ h => h))
        clear ht5 hm5 c0 c1 c2 c3 c4 c5
        obtain ⟨b', off', hA', hb', c0, c1, c2, c3, c4, c5⟩ := (HL.out.keep (fun k hk => HM5.out.block k hk (Nat.not_le.2 hk))).six HA.out
        simp only [Option.some.injEq, Addr.mk.injEq] at hA'
        obtain ⟨rfl, rfl, -⟩ := hA'
        go_wp2_with fail
        refine (doR HT5.out HM5.out.size a HTX.out HWA.out HQ.out).mono ?_
        rintro e w6 ⟨rfl, ht6, hm6⟩
        have HT6 := hid_ ht6
        have HM6 := hid_ (HM5.out.trans hm6 (fun _ _ h => h))
        clear ht6 hm6 c0 c1 c2 c3 c4 c5
        go_wp2
        go_roundw
        case rel => exact ⟨k + 1, by omega, by go_num, by rw [DK.acts_snoc _ _ _ _ HA.out]; exact HT6.out, HM6.out⟩
        case measure => simp [intOf]; omega
      · have hkn : k = n := by omega
        subst hkn
        have htk : l.take k = l := List.take_of_length_le (by rw [HN.out]; exact Nat.le_refl _)
        rw [htk] at HT
        clear htk hk hlt
        obtain ⟨X, hX⟩ : ∃ X, X = (DK.new s).acts l := ⟨_, rfl⟩
        rw [← hX] at HT
        have hqX : X.q.length ≤ 60 := by
          have h1 := DK.acts_q l (DK.new s)
          have h2 := okB_len HOK.out
          have h3 : (DK.new s).q.length = 0 := rfl
          rw [hX]; omega
        have hnX : X.n = s := by rw [hX, DK.acts_n]; rfl
        have HNX := hid_ hnX
        obtain ⟨law1, law2⟩ := allLaw X hqX bytes more
        have L1 := hid_ law1
        have L2 := hid_ law2
        clear hX hnX law1 law2
        go_wp2_with fail
        refine (startL HT.out HM.out.size).mono ?_
        rintro e w5 ⟨rfl, ht5, hm5⟩
        have HT5 := hid_ ht5
        have HM5 := hid_ (HM.out.trans hm5 (fun _ _ h => h))
        clear ht5 hm5
        go_wp2_with fail
        refine (startR HT5.out HM5.out.size).mono ?_
        rintro e w6 ⟨rfl, ht6, hm6⟩
        have HT6 := hid_ ht6
        have HM6 := hid_ (HM5.out.trans hm6 (fun _ _ h => h))
        clear ht6 hm6
        go_wp2_with fail
        refine (failL HT6.out HM6.out.size 60 bytes).mono ?_
        rintro e w7 ⟨rfl, ht7, hm7⟩
        have HT7 := hid_ ht7
        have HM7 := hid_ (HM6.out.trans hm7 (fun _ _ h => h))
        clear ht7 hm7
        go_wp2_with fail
        refine (failL HT7.out HM7.out.size more bytes).mono ?_
        rintro e w8 ⟨rfl, ht8, hm8⟩
        have HT8 := hid_ ht8
        have HM8 := hid_ (HM7.out.trans hm8 (fun _ _ h => h))
        clear ht8 hm8
        go_wp2_with fail
        refine (syncR HT8.out HM8.out.size).mono ?_
        rw [L1.out]
        rintro e w9 ⟨rfl, ht9, hm9⟩
        have HT9 := hid_ ht9
        have HM9 := hid_ (HM8.out.trans hm9 (fun _ _ h => h))
        clear ht9 hm9
        go_wp2_with fail
        refine (failR HT9.out HM9.out.size 0 bytes).mono ?_
        rintro e w10 ⟨rfl, ht10, hm10⟩
        have HT10 := hid_ ht10
        have HM10 := hid_ (HM9.out.trans hm10 (fun _ _ h => h))
        clear ht10 hm10
        go_wp2_with fail
        refine (startL HT10.out HM10.out.size).mono ?_
        rintro e w11 ⟨rfl, ht11, hm11⟩
        have HT11 := hid_ ht11
        have HM11 := hid_ (HM10.out.trans hm11 (fun _ _ h => h))
        clear ht11 hm11
        go_wp2_with fail
        refine (startR HT11.out HM11.out.size).mono ?_
        rintro e w12 ⟨rfl, ht12, hm12⟩
        have HT12 := hid_ ht12
        have HM12 := hid_ (HM11.out.trans hm12 (fun _ _ h => h))
        clear ht12 hm12
        go_wp2_with fail
        refine (startL HT12.out HM12.out.size).mono ?_
        rintro e w13 ⟨rfl, ht13, hm13⟩
        rw [L2.out] at ht13
        have HT13 := hid_ ht13
        have HM13 := hid_ (HM12.out.trans hm13 (fun _ _ h => h))
        clear ht13 hm13
        obtain ⟨Y, hY⟩ : ∃ Y, Y = (X.start.sync.2.cut 0 bytes).start := ⟨_, rfl⟩
        rw [← hY] at HT13
        have hYo : Y.off = false := by rw [hY]; rfl
        have hYn : Y.n = s := by rw [hY]; show (X.start.sync.2.cut 0 bytes).n = s; rw [DK.cut_n, DK.sync_n]; exact HNX.out
        have HYO := hid_ hYo
        have HYN := hid_ hYn
        clear hY hYo hYn
        go_wp2_with fail
        refine (contentsE s (fun _ _ => contentsL HT13.out HYO.out) HYN.out).mono ?_
        rintro e w14 ⟨v1, rfl, hs14, hm14⟩
        have HS14 := hid_ hs14
        have HT14 := hid_ (HT13.out.mod hm14)
        have HM14 := hid_ (HM13.out.trans hm14 (fun _ _ => False.elim))
        clear hs14 hm14
        go_wp2_with fail
        refine (contentsE s (fun _ _ => contentsR HT14.out HYO.out) HYN.out).mono ?_
        rintro e w15 ⟨v2, rfl, hs15, hm15⟩
        have HS15 := hid_ hs15
        have HS14' := hid_ (own_keep HS14.out (fun k hk => hm15.block k (own_lt HS14.out hk) id) : StrsAt w15 w13.heap.size v1 Y.texts)
        have HM15 := hid_ (HM14.out.trans hm15 (fun _ _ => False.elim))
        clear hs15 hm15
        have hlen : Y.texts.length ≤ 1000000000 := by simp [DK.texts, HYN.out]; omega
        have HLEN := hid_ hlen
        clear hlen
        go_wp2_with fail
        refine (same_any HS14'.out HS15.out HLEN.out HLEN.out).mono ?_
        rw [decide_eq_true rfl]
        rintro e w16 ⟨rfl, hm16⟩
        have HM16 := hid_ (HM15.out.trans hm16 (fun _ _ => False.elim))
        clear hm16
        go_wp2_with fail
        go_returns
        exact ⟨rfl, HM16.out.below (Nat.le_refl _) (fun i hi h => absurd h (Nat.not_le.2 hi))⟩

end Go.Proofs.Ytbioeeccbcaljaa
