/- DiskArmed: the walk. -/
import Derived.Test.YtbioeeccbcaljaaD2
set_option linter.unusedVariables false
set_option linter.unusedSimpArgs false
namespace Go.Proofs.Ytbioeeccbcaljaa
open Go.RowKit

set_option maxRecDepth 100000 in
set_option maxHeartbeats 8000000 in
theorem armed_walk (w : World) (r : Nat) (hr : r < 256) (A : Option Addr) (c n : Nat) (l : List Ac) (hn : l.length = n) (hm : n ≤ 9223372036854775807) (hl : ActsAt w w.heap.size A l) (hwf : ∀ a ∈ l, Ac.Wf a) (A2 : Option Addr) (c2 n2 : Nat) (l2 : List Ac) (hn2 : l2.length = n2) (hm2 : n2 ≤ 9223372036854775807) (hl2 : ActsAt w w.heap.size A2 l2) (hwf2 : ∀ a ∈ l2, Ac.Wf a) (i3 : Int) (hi3 : (Lit.int .i64 i3).wf = true) (i4 : Int) (hi4 : (Lit.int .i64 i4).wf = true) (i5 : Int) (hi5 : (Lit.int .i64 i5).wf = true) :
    Calls Try.prog 8 #[.int .u8 (r : Int), .slice A n c, .slice A2 n2 c2, .int .i64 i3, .int .i64 i4, .int .i64 i5] w fun e w' => e = .returned (.bool true) ∧ Below w.heap.size w w' := by
  have HL := hid_ hl
  have HN := hid_ hn
  have HW := hid_ hwf
  clear hl hn hwf
  have HL2 := hid_ hl2
  have HN2 := hid_ hn2
  have HW2 := hid_ hwf2
  clear hl2 hn2 hwf2
  go_enter Try.func8, Try.ntmps8
  obtain ⟨w0, hw0⟩ : ∃ w0, w0 = w := ⟨_, rfl⟩
  have HL := hid_ (show ActsAt w0 w0.heap.size A l by rw [hw0]; exact HL.out)
  have HL2 := hid_ (show ActsAt w0 w0.heap.size A2 l2 by rw [hw0]; exact HL2.out)
  rw [← hw0]
  clear hw0
  have BEL := hid_ (fun (w' : World) (hm : Mod (From w0.heap.size) w0 w') => (hm.below (Nat.le_refl _) (fun i hi h => absurd h (Nat.not_le.2 hi)) : Below w0.heap.size w0 w'))
  have HM0 := hid_ (Mod.refl (From w0.heap.size) w0)
  go_wp2_with fail
  refine (head_any _).mono ?_
  rintro e w1 ⟨rfl, hm⟩
  have HM1 := hid_ (HM0.out.trans hm (fun _ _ => False.elim))
  clear hm
  cases hok : okB l with
  | false =>
    go_wp2_with fail
    refine (ok_any w1 w0.heap.size A l c n HN.out (HL.out.keep (fun k hk => HM1.out.block k hk (Nat.not_le.2 hk))) hm).mono ?_
    rw [hok]
    rintro e w' ⟨rfl, hw'⟩
    obtain rfl := hw'.symm
    clear hok
    go_wp2_with fail
    go_returns
    exact ⟨rfl, BEL.out _ HM1.out⟩
  | true =>
    go_wp2_with fail
    refine (ok_any w1 w0.heap.size A l c n HN.out (HL.out.keep (fun k hk => HM1.out.block k hk (Nat.not_le.2 hk))) hm).mono ?_
    rw [hok]
    rintro e w' ⟨rfl, hw'⟩
    obtain rfl := hw'.symm
    have HOK := hid_ hok
    clear hok
    cases hok : okB l2 with
    | false =>
      go_wp2_with fail
      refine (ok_any w1 w0.heap.size A2 l2 c2 n2 HN2.out (HL2.out.keep (fun k hk => HM1.out.block k hk (Nat.not_le.2 hk))) hm2).mono ?_
      rw [hok]
      rintro e w' ⟨rfl, hw'⟩
      obtain rfl := hw'.symm
      clear hok
      go_wp2_with fail
      go_returns
      exact ⟨rfl, BEL.out _ HM1.out⟩
    | true =>
      go_wp2_with fail
      refine (ok_any w1 w0.heap.size A2 l2 c2 n2 HN2.out (HL2.out.keep (fun k hk => HM1.out.block k hk (Nat.not_le.2 hk))) hm2).mono ?_
      rw [hok]
      rintro e w' ⟨rfl, hw'⟩
      obtain rfl := hw'.symm
      have HOK2 := hid_ hok
      clear hok
      go_wp2_with fail
      refine (size_any r _ hr).mono ?_
      rintro e w' ⟨rfl, hw'⟩
      obtain rfl := hw'.symm
      have hs1 : 1 ≤ secs r := by unfold secs; omega
      have hs2 : secs r ≤ 12 := by unfold secs; omega
      rw [show 1 + r % 12 = secs r from rfl]
      obtain ⟨s, hs⟩ : ∃ s, s = secs r := ⟨_, rfl⟩
      rw [← hs] at hs1 hs2 ⊢
      clear hs
      go_wp2_with fail
      refine (new_any s _ hs1 (by omega)).mono ?_
      rintro e w2 ⟨Fa, rfl, hfa, hda, hma⟩
      have HDA := hid_ hda
      have HFA := hid_ (fun k hk => Nat.le_trans HM1.out.size (hfa k hk) : ∀ k, Fa.has k → w0.heap.size ≤ k)
      have HM2 := hid_ (HM1.out.trans hma (fun _ _ => False.elim))
      clear hfa hda hma
      go_wp2_with fail
      refine (new_any s _ hs1 (by omega)).mono ?_
      rintro e w3 ⟨Fb, rfl, hfb, hdb, hmb⟩
      have HT := hid_ (Two.news (N := w0.heap.size) HDA.out HFA.out hdb hfb hmb HM2.out.size)
      have HM3 := hid_ (HM2.out.trans hmb (fun _ _ => False.elim))
      clear hfb hdb hmb
      obtain ⟨da, hda⟩ : ∃ da, da = Fa.d := ⟨_, rfl⟩
      obtain ⟨db, hdb⟩ : ∃ db, db = Fb.d := ⟨_, rfl⟩
      rw [← hda, ← hdb] at HT
      simp only [dptr]
      rw [← hda, ← hdb]
      clear hda hdb HDA HFA
      go_wp2_with fail
      go_loopw [17] (fun v wr => ∃ k : Nat, k ≤ n ∧ v = .int .i64 k ∧ Two w0.heap.size da db ((DK.new s).acts (l.take k)) ((DK.new s).acts (l.take k)) wr ∧ Mod (From w0.heap.size) w0 wr) (fun v _ => n - (intOf v).toNat)
      case atStart => exact ⟨0, Nat.zero_le _, rfl, HT.out, HM3.out⟩
      case round =>
        obtain ⟨k, hk, rfl, htwo, hmod⟩ := hrel
        have HT := hid_ htwo
        have HM := hid_ hmod
        clear htwo hmod
        by_cases hlt : k < n
        · obtain ⟨a, ha⟩ : ∃ a, l[k]? = some a := ⟨_, List.getElem?_eq_getElem (by rw [HN.out]; exact hlt)⟩
          have hal : a ∈ l := List.mem_of_getElem? ha
          have HTX := hid_ (okB_text HOK.out hal)
          have HWA := hid_ (HW.out a hal).after
          have HQ := hid_ (show ((DK.new s).acts (l.take k)).q.length < 1000000 by
            have h1 := DK.acts_q (l.take k) (DK.new s)
            have h2 := okB_len HOK.out
            rw [List.length_take] at h1
            have h3 : (DK.new s).q.length = 0 := rfl
            omega)
          obtain ⟨b, off, hA, hb, c0, c1, c2', c3, c4, c5⟩ := (HL.out.keep (fun k hk => HM.out.block k hk (Nat.not_le.2 hk))).six ha
          have HA := hid_ ha
          subst hA
          clear ha hal
          go_wp2_with fail
          refine (doL HT.out HM.out.size a HTX.out HWA.out HQ.out).mono ?_
          rintro e x5 ⟨rfl, ht5, hm5⟩
          have HT5 := hid_ ht5
          have HM5 := hid_ (HM.out.trans hm5 (fun _ _ h => h))
          clear ht5 hm5 c0 c1 c2' c3 c4 c5
          obtain ⟨c0, c1, c2', c3, c4, c5⟩ := HL.out.sixm HM5.out HA.out
          go_wp2_with fail
          refine (doR HT5.out HM5.out.size a HTX.out HWA.out HQ.out).mono ?_
          rintro e x6 ⟨rfl, ht6, hm6⟩
          have HT6 := hid_ ht6
          have HM6 := hid_ (HM5.out.trans hm6 (fun _ _ h => h))
          clear ht6 hm6 c0 c1 c2' c3 c4 c5
          go_wp2
          go_roundw
          case rel => exact ⟨k + 1, by omega, by go_num, by rw [DK.acts_snoc _ _ _ _ HA.out]; exact HT6.out, HM6.out⟩
          case measure => simp [intOf]; omega
        · have hkn : k = n := by omega
          subst hkn
          have htk : l.take k = l := List.take_of_length_le (by rw [HN.out]; exact Nat.le_refl _)
          rw [htk] at HT
          clear htk hk hlt
          obtain ⟨X, hX⟩ : ∃ X, X = (DK.new s).acts l := ⟨_, rfl⟩
          rw [← hX] at HT
          have HQX := hid_ (show X.q.length ≤ 60 by
            have h1 := DK.acts_q l (DK.new s)
            have h2 := okB_len HOK.out
            have h3 : (DK.new s).q.length = 0 := rfl
            rw [hX]; omega)
          have HNX := hid_ (show X.n = s by rw [hX, DK.acts_n]; rfl)
          clear hX
          obtain ⟨wb, hwb⟩ : ∃ wb, wb = wr := ⟨_, rfl⟩
          rw [← hwb] at HT HM ⊢
          clear hwb
          go_wp2_with fail
          refine (startL HT.out HM.out.size).mono ?_
          rintro e w4 ⟨rfl, ht, hm⟩
          have HT4 := hid_ ht
          have HM4 := hid_ (HM.out.trans hm (fun _ _ h => h))
          clear ht hm
          go_wp2_with fail
          refine (startR HT4.out HM4.out.size).mono ?_
          rintro e w5 ⟨rfl, ht, hm⟩
          have HT5 := hid_ ht
          have HM5 := hid_ (HM4.out.trans hm (fun _ _ h => h))
          clear ht hm
          obtain ⟨Y, hY⟩ : ∃ Y, Y = X.start := ⟨_, rfl⟩
          rw [← hY] at HT5
          have HID0 := hid_ (show Y.Idle by rw [hY]; exact X.start_idle)
          have HYN := hid_ (show Y.n = s by rw [hY]; exact HNX.out)
          have HYQ := hid_ (show Y.q.length ≤ 60 by rw [hY]; exact HQX.out)
          clear hY
          have HAR := hid_ (HID0.out.armd0 i3 i4 i5)
          have ht3 := wf_top hi3
          have hl3 := wf_low hi3
          go_wp2_with fail
          refine (armL HT5.out HM5.out.size i3 i4 i5 ht3).mono ?_
          rw [HAR.out]
          rintro e w6 ⟨rfl, ht, hm⟩
          have HT6 := hid_ ht
          have HM6 := hid_ (HM5.out.trans hm (fun _ _ h => h))
          clear ht hm
          go_wp2_with fail
          go_loopw [18, 19] (fun lv v wr => ∃ (k : Nat) (lf : Int) (C : DK), k ≤ n2 ∧ v = .int .i64 k ∧ lv = .int .i64 lf ∧ C.Idle ∧ C.n = s ∧ C.q.length ≤ 60 + k ∧ ((0 ≤ i3 ∧ 0 ≤ lf ∧ lf ≤ i3) ∨ (i3 < 0 ∧ lf = i3)) ∧ Two w0.heap.size da db (C.armd i3 lf i4 i5) C wr ∧ Mod (From w0.heap.size) w0 wr) (fun _ v _ => n2 - (intOf v).toNat)
          case atStart => exact ⟨0, i3, Y, Nat.zero_le _, rfl, rfl, HID0.out, HYN.out, HYQ.out, by omega, HT6.out, HM6.out⟩
          case round =>
            obtain ⟨k, lf, C, hk, rfl, rfl, hid, hn, hq, hb, htwo, hmod⟩ := hrel
            have HT := hid_ htwo
            have HM := hid_ hmod
            have HID := hid_ hid
            have HNC := hid_ hn
            have HQC := hid_ hq
            clear htwo hmod hid hn hq HAR
            obtain ⟨wx, hwx⟩ : ∃ wx, wx = wr := ⟨_, rfl⟩
            rw [← hwx] at HT HM ⊢
            clear hwx
            by_cases hlt : k < n2
            · have hk60 : k < 60 := by have := okB_len HOK2.out; rw [HN2.out] at this; omega
              obtain ⟨a, ha⟩ : ∃ a, l2[k]? = some a := ⟨_, List.getElem?_eq_getElem (by rw [HN2.out]; exact hlt)⟩
              have hal : a ∈ l2 := List.mem_of_getElem? ha
              have HTX := hid_ (okB_text HOK2.out hal)
              obtain ⟨b2, off2, hA, hb2, -⟩ := HL2.out.six ha
              have HA := hid_ ha
              subst hA
              clear ha hal hb2
              obtain ⟨c0, c1, c2', c3, c4, c5⟩ := HL2.out.sixm HM.out HA.out
              have HF1 := hid_ (show (C.armd i3 lf i4 i5).q.length < 1000000 by have := HQC.out; show C.q.length < 1000000; omega)
              have HF2 := hid_ (show C.q.length < 1000000 by have := HQC.out; omega)
              obtain ⟨T, hT⟩ : ∃ T, T = a.txt := ⟨_, rfl⟩
              have HCALL := hid_ (fun w => show Calls Try.prog 24 #[a.val] w (TextPost T w) by rw [hT]; exact text_any a w HTX.out)
              have HTE := hid_ hT
              clear hT HTX
              have hsp : (lf = 0 ∧ 0 ≤ i3) ∨ (0 < lf ∧ 0 ≤ i3) ∨ (lf < 0 ∧ i3 < 0) := by omega
              by_cases hkd : a.kind = 2
              · have k2 : (a.kind == 2) = true := by rw [hkd]; rfl
                rcases hsp with ⟨h1, h2⟩ | ⟨h1, h2⟩ | ⟨h1, h2⟩
                · skip
                  subst h1
                  have HS := hid_ (DK.armd_sync_off HID.out (x := i4) (y := i5) h2)
                  go_wp2_with fail
                  refine (failR HT.out HM.out.size i4 i5).mono ?_
                  rintro e w7 ⟨rfl, ht, hm⟩
                  have HT7 := hid_ ht
                  have HM7 := hid_ (HM.out.trans hm (fun _ _ h => h))
                  clear ht hm
                  go_wp2_with fail
                  refine (syncL HT7.out HM7.out.size).mono ?_
                  rw [HS.out]
                  rintro e w8 ⟨rfl, ht, hm⟩
                  have HT8 := hid_ ht
                  have HM8 := hid_ (HM7.out.trans hm (fun _ _ h => h))
                  clear ht hm
                  have HNW := hid_ (show (C.cut i4 i5).n = s by rw [DK.cut_n]; exact HNC.out)
                  go_wp2_with fail
                  refine (startL HT8.out HM8.out.size).mono ?_
                  rintro e w9 ⟨rfl, ht, hm⟩
                  have HT9 := hid_ ht
                  have HM9 := hid_ (HM8.out.trans hm (fun _ _ h => h))
                  clear ht hm
                  go_wp2_with fail
                  refine (startR HT9.out HM9.out.size).mono ?_
                  rintro e w10 ⟨rfl, ht, hm⟩
                  have HT10 := hid_ ht
                  have HM10 := hid_ (HM9.out.trans hm (fun _ _ h => h))
                  clear ht hm
                  obtain ⟨Z, hZ⟩ : ∃ Z : DK, Z = (C.cut i4 i5).start := ⟨_, rfl⟩

                  rw [← hZ] at HT10
                  have HZO := hid_ (show Z.off = false by rw [hZ]; rfl)
                  have HZN := hid_ (show Z.n = s by rw [hZ]; exact HNW.out)
                  have HFEZ := hid_ (DK.texts_few (A := Z) (by rw [HZN.out]; omega))
                  clear hZ
                  go_wp2_with fail
                  refine (contentsE s (fun _ _ => contentsL HT10.out HZO.out) HZN.out).mono ?_
                  rintro e w12 ⟨va, rfl, hst, hm⟩
                  have HM12 := hid_ (HM10.out.trans hm (fun _ _ => False.elim))
                  have HTa := hid_ (HT10.out.mod hm)
                  have STa := hid_ (hst)
                  clear hm
                  clear hst
                  go_wp2_with fail
                  refine (contentsE s (fun _ _ => contentsR HTa.out HZO.out) HZN.out).mono ?_
                  rintro e w13 ⟨vb, rfl, hst, hm⟩
                  have HM13 := hid_ (HM12.out.trans hm (fun _ _ => False.elim))
                  have STb := hid_ (hst)
                  have STa2 := hid_ (strs_mod STa.out hm (fun _ _ => id))
                  clear hm
                  clear hst
                  go_wp2_with fail
                  refine (same_any STa2.out STb.out HFEZ.out HFEZ.out).mono ?_
                  rw [decide_eq_true rfl]
                  rintro e w14 ⟨rfl, hm⟩
                  have HM14 := hid_ (HM13.out.trans hm (fun _ _ => False.elim))
                  clear hm
                  go_wp2_with fail
                  go_returns
                  exact ⟨rfl, BEL.out _ HM14.out⟩
                · skip
                  have HS := hid_ (DK.armd_sync_pos HID.out h2 h1 (x := i4) (y := i5) (lf := lf))
                  have HS2 := hid_ HID.out.sync'
                  go_wp2_with fail
                  refine (syncR HT.out HM.out.size).mono ?_
                  rw [HS2.out]
                  rintro e w15 ⟨rfl, ht, hm⟩
                  have HT15 := hid_ ht
                  have HM15 := hid_ (HM.out.trans hm (fun _ _ h => h))
                  clear ht hm
                  go_wp2_with fail
                  refine (syncL HT15.out HM15.out.size).mono ?_
                  rw [HS.out]
                  rintro e w16 ⟨rfl, ht, hm⟩
                  have HT16 := hid_ ht
                  have HM16 := hid_ (HM15.out.trans hm (fun _ _ h => h))
                  clear ht hm
                  go_wp2_with fail
                  go_roundw
                  case rel => exact ⟨k + 1, lf - 1, C.settled, by omega, by go_num, by first | rfl | go_num, HID.out.settled, HNC.out, by show 0 ≤ _; omega, by omega, HT16.out, HM16.out⟩
                  case measure => simp [intOf]; omega
                · skip
                  have HS := hid_ (DK.armd_sync_neg HID.out h2 (x := i4) (y := i5) (lf := lf))
                  have HS2 := hid_ HID.out.sync'
                  go_wp2_with fail
                  refine (syncR HT.out HM.out.size).mono ?_
                  rw [HS2.out]
                  rintro e w17 ⟨rfl, ht, hm⟩
                  have HT17 := hid_ ht
                  have HM17 := hid_ (HM.out.trans hm (fun _ _ h => h))
                  clear ht hm
                  go_wp2_with fail
                  refine (syncL HT17.out HM17.out.size).mono ?_
                  rw [HS.out]
                  rintro e w18 ⟨rfl, ht, hm⟩
                  have HT18 := hid_ ht
                  have HM18 := hid_ (HM17.out.trans hm (fun _ _ h => h))
                  clear ht hm
                  go_wp2_with fail
                  go_roundw
                  case rel => exact ⟨k + 1, lf, C.settled, by omega, by go_num, by first | rfl | go_num, HID.out.settled, HNC.out, by show 0 ≤ _; omega, by omega, HT18.out, HM18.out⟩
                  case measure => simp [intOf]; omega
              · have k2 : (a.kind == 2) = false := beq_eq_false_iff_ne.2 hkd
                by_cases hv : goodW s a
                · have HG := hid_ (HID.out.good (v := a) (by rw [HNC.out]; exact hv))
                  have HG2 := hid_ (fun lf => DK.armd_good HID.out (a := i3) (lf := lf) (x := i4) (y := i5) (v := a) (by rw [HNC.out]; exact hv))
                  rw [← HTE.out] at HG HG2
                  obtain ⟨C2, hC2⟩ : ∃ C2, C2 = C.push a.sector.toNat T := ⟨_, rfl⟩
                  rw [← hC2] at HG HG2
                  have HID2 := hid_ (show C2.Idle by rw [hC2]; exact HID.out.push _ _)
                  have HNC2 := hid_ (show C2.n = s by rw [hC2]; exact HNC.out)
                  have HQC2 := hid_ (show C2.q.length ≤ 60 + (k + 1) by rw [hC2]; have := HQC.out; simp [DK.push]; omega)
                  clear hC2
                  rcases hsp with ⟨h1, h2⟩ | ⟨h1, h2⟩ | ⟨h1, h2⟩
                  · skip
                    subst h1
                    have HS := hid_ (show (C.armd i3 0 i4 i5).write a.sector T = (22, C2.cut i4 i5) by rw [HG2.out 0]; exact DK.armd_count_off HID2.out.on h2)
                    go_wp2_with fail
                    go_region_held3 (fun w' => w'.cell? ⟨b2, off2 + k * 6, none⟩ = some (.int .i64 a.kind) ∧ w'.cell? ⟨b2, off2 + k * 6 + 1, none⟩ = some (.int .i64 a.sector) ∧ w'.cell? ⟨b2, off2 + k * 6 + 2, none⟩ = some (.int .i64 a.bytes) ∧ w'.cell? ⟨b2, off2 + k * 6 + 3, none⟩ = some (.string a.text) ∧ w'.cell? ⟨b2, off2 + k * 6 + 4, none⟩ = some (.bool a.odd) ∧ w'.cell? ⟨b2, off2 + k * 6 + 5, none⟩ = some (.int .i64 a.after))
                      (first
                        | exact HL2.out.sixm HM.out.drew HA.out
                        | exact HL2.out.sixm HM19.out HA.out
                        | exact HL2.out.sixm HM20.out HA.out)
                      (first
                        | (go_at_call 24; refine (HCALL.out _).mono ?_; rintro e w19 ⟨rfl, hm⟩; have HM19 := hid_ (HM.out.drew.trans hm (fun _ _ => False.elim)); have HN19 := hid_ (((Mod.refl Nothing _).drew).trans hm (fun _ _ h => h) : Mod Nothing wx w19); clear hm)
                        | (go_at_call 23; refine (writeR (HT.out.mod HN19.out) HM19.out.size a.sector T HF2.out).mono ?_; rw [HG.out]; rintro e w20 ⟨rfl, ht, hm⟩; have HT20 := hid_ ht; have HM20 := hid_ (HM19.out.trans hm (fun _ _ h => h)); clear ht hm))
                    obtain ⟨c0, c1, c2', c3, c4, c5⟩ := HL2.out.sixm HM20.out HA.out
                    go_wp2_with fail
                    refine (failR HT20.out HM20.out.size i4 i5).mono ?_
                    rintro e w21 ⟨rfl, ht, hm⟩
                    have HT21 := hid_ ht
                    have HM21 := hid_ (HM20.out.trans hm (fun _ _ h => h))
                    clear ht hm
                    go_wp2_with fail
                    go_region_held3 (fun w' => w'.cell? ⟨b2, off2 + k * 6, none⟩ = some (.int .i64 a.kind) ∧ w'.cell? ⟨b2, off2 + k * 6 + 1, none⟩ = some (.int .i64 a.sector) ∧ w'.cell? ⟨b2, off2 + k * 6 + 2, none⟩ = some (.int .i64 a.bytes) ∧ w'.cell? ⟨b2, off2 + k * 6 + 3, none⟩ = some (.string a.text) ∧ w'.cell? ⟨b2, off2 + k * 6 + 4, none⟩ = some (.bool a.odd) ∧ w'.cell? ⟨b2, off2 + k * 6 + 5, none⟩ = some (.int .i64 a.after))
                      (first
                        | exact HL2.out.sixm HM21.out.drew HA.out
                        | exact HL2.out.sixm HM22.out HA.out
                        | exact HL2.out.sixm HM23.out HA.out)
                      (first
                        | (go_at_call 24; refine (HCALL.out _).mono ?_; rintro e w22 ⟨rfl, hm⟩; have HM22 := hid_ (HM21.out.drew.trans hm (fun _ _ => False.elim)); have HN22 := hid_ (((Mod.refl Nothing _).drew).trans hm (fun _ _ h => h) : Mod Nothing w21 w22); clear hm)
                        | (go_at_call 23; refine (writeL (HT21.out.mod HN22.out) HM22.out.size a.sector T HF1.out).mono ?_; rw [HS.out]; rintro e w23 ⟨rfl, ht, hm⟩; have HT23 := hid_ ht; have HM23 := hid_ (HM22.out.trans hm (fun _ _ h => h)); clear ht hm))
                    obtain ⟨c0, c1, c2', c3, c4, c5⟩ := HL2.out.sixm HM23.out HA.out
                    have HNW := hid_ (show (C2.cut i4 i5).n = s by rw [DK.cut_n]; exact HNC2.out)
                    go_wp2_with fail
                    refine (startL HT23.out HM23.out.size).mono ?_
                    rintro e w24 ⟨rfl, ht, hm⟩
                    have HT24 := hid_ ht
                    have HM24 := hid_ (HM23.out.trans hm (fun _ _ h => h))
                    clear ht hm
                    go_wp2_with fail
                    refine (startR HT24.out HM24.out.size).mono ?_
                    rintro e w25 ⟨rfl, ht, hm⟩
                    have HT25 := hid_ ht
                    have HM25 := hid_ (HM24.out.trans hm (fun _ _ h => h))
                    clear ht hm
                    obtain ⟨Z, hZ⟩ : ∃ Z : DK, Z = (C2.cut i4 i5).start := ⟨_, rfl⟩

                    rw [← hZ] at HT25
                    have HZO := hid_ (show Z.off = false by rw [hZ]; rfl)
                    have HZN := hid_ (show Z.n = s by rw [hZ]; exact HNW.out)
                    have HFEZ := hid_ (DK.texts_few (A := Z) (by rw [HZN.out]; omega))
                    clear hZ
                    go_wp2_with fail
                    refine (contentsE s (fun _ _ => contentsL HT25.out HZO.out) HZN.out).mono ?_
                    rintro e w27 ⟨va, rfl, hst, hm⟩
                    have HM27 := hid_ (HM25.out.trans hm (fun _ _ => False.elim))
                    have HTa := hid_ (HT25.out.mod hm)
                    have STa := hid_ (hst)
                    clear hm
                    clear hst
                    go_wp2_with fail
                    refine (contentsE s (fun _ _ => contentsR HTa.out HZO.out) HZN.out).mono ?_
                    rintro e w28 ⟨vb, rfl, hst, hm⟩
                    have HM28 := hid_ (HM27.out.trans hm (fun _ _ => False.elim))
                    have STb := hid_ (hst)
                    have STa2 := hid_ (strs_mod STa.out hm (fun _ _ => id))
                    clear hm
                    clear hst
                    go_wp2_with fail
                    refine (same_any STa2.out STb.out HFEZ.out HFEZ.out).mono ?_
                    rw [decide_eq_true rfl]
                    rintro e w29 ⟨rfl, hm⟩
                    have HM29 := hid_ (HM28.out.trans hm (fun _ _ => False.elim))
                    clear hm
                    go_wp2_with fail
                    go_returns
                    exact ⟨rfl, BEL.out _ HM29.out⟩
                  · skip
                    have HS := hid_ (show (C.armd i3 lf i4 i5).write a.sector T = (0, C2.armd i3 (lf - 1) i4 i5) by rw [HG2.out lf]; exact DK.armd_count_pos h2 h1)
                    go_wp2_with fail
                    go_region_held3 (fun w' => w'.cell? ⟨b2, off2 + k * 6, none⟩ = some (.int .i64 a.kind) ∧ w'.cell? ⟨b2, off2 + k * 6 + 1, none⟩ = some (.int .i64 a.sector) ∧ w'.cell? ⟨b2, off2 + k * 6 + 2, none⟩ = some (.int .i64 a.bytes) ∧ w'.cell? ⟨b2, off2 + k * 6 + 3, none⟩ = some (.string a.text) ∧ w'.cell? ⟨b2, off2 + k * 6 + 4, none⟩ = some (.bool a.odd) ∧ w'.cell? ⟨b2, off2 + k * 6 + 5, none⟩ = some (.int .i64 a.after))
                      (first
                        | exact HL2.out.sixm HM.out.drew HA.out
                        | exact HL2.out.sixm HM30.out HA.out
                        | exact HL2.out.sixm HM31.out HA.out)
                      (first
                        | (go_at_call 24; refine (HCALL.out _).mono ?_; rintro e w30 ⟨rfl, hm⟩; have HM30 := hid_ (HM.out.drew.trans hm (fun _ _ => False.elim)); have HN30 := hid_ (((Mod.refl Nothing _).drew).trans hm (fun _ _ h => h) : Mod Nothing wx w30); clear hm)
                        | (go_at_call 23; refine (writeR (HT.out.mod HN30.out) HM30.out.size a.sector T HF2.out).mono ?_; rw [HG.out]; rintro e w31 ⟨rfl, ht, hm⟩; have HT31 := hid_ ht; have HM31 := hid_ (HM30.out.trans hm (fun _ _ h => h)); clear ht hm))
                    obtain ⟨c0, c1, c2', c3, c4, c5⟩ := HL2.out.sixm HM31.out HA.out
                    go_wp2_with fail
                    go_region_held3 (fun w' => w'.cell? ⟨b2, off2 + k * 6, none⟩ = some (.int .i64 a.kind) ∧ w'.cell? ⟨b2, off2 + k * 6 + 1, none⟩ = some (.int .i64 a.sector) ∧ w'.cell? ⟨b2, off2 + k * 6 + 2, none⟩ = some (.int .i64 a.bytes) ∧ w'.cell? ⟨b2, off2 + k * 6 + 3, none⟩ = some (.string a.text) ∧ w'.cell? ⟨b2, off2 + k * 6 + 4, none⟩ = some (.bool a.odd) ∧ w'.cell? ⟨b2, off2 + k * 6 + 5, none⟩ = some (.int .i64 a.after))
                      (first
                        | exact HL2.out.sixm HM31.out.drew HA.out
                        | exact HL2.out.sixm HM32.out HA.out
                        | exact HL2.out.sixm HM33.out HA.out)
                      (first
                        | (go_at_call 24; refine (HCALL.out _).mono ?_; rintro e w32 ⟨rfl, hm⟩; have HM32 := hid_ (HM31.out.drew.trans hm (fun _ _ => False.elim)); have HN32 := hid_ (((Mod.refl Nothing _).drew).trans hm (fun _ _ h => h) : Mod Nothing w31 w32); clear hm)
                        | (go_at_call 23; refine (writeL (HT31.out.mod HN32.out) HM32.out.size a.sector T HF1.out).mono ?_; rw [HS.out]; rintro e w33 ⟨rfl, ht, hm⟩; have HT33 := hid_ ht; have HM33 := hid_ (HM32.out.trans hm (fun _ _ h => h)); clear ht hm))
                    obtain ⟨c0, c1, c2', c3, c4, c5⟩ := HL2.out.sixm HM33.out HA.out
                    go_wp2_with fail
                    go_roundw
                    case rel => exact ⟨k + 1, lf - 1, C2, by omega, by go_num, by first | rfl | go_num, HID2.out, HNC2.out, HQC2.out, by omega, HT33.out, HM33.out⟩
                    case measure => simp [intOf]; omega
                  · skip
                    have HS := hid_ (show (C.armd i3 lf i4 i5).write a.sector T = (0, C2.armd i3 lf i4 i5) by rw [HG2.out lf]; exact DK.armd_count_neg h2)
                    go_wp2_with fail
                    go_region_held3 (fun w' => w'.cell? ⟨b2, off2 + k * 6, none⟩ = some (.int .i64 a.kind) ∧ w'.cell? ⟨b2, off2 + k * 6 + 1, none⟩ = some (.int .i64 a.sector) ∧ w'.cell? ⟨b2, off2 + k * 6 + 2, none⟩ = some (.int .i64 a.bytes) ∧ w'.cell? ⟨b2, off2 + k * 6 + 3, none⟩ = some (.string a.text) ∧ w'.cell? ⟨b2, off2 + k * 6 + 4, none⟩ = some (.bool a.odd) ∧ w'.cell? ⟨b2, off2 + k * 6 + 5, none⟩ = some (.int .i64 a.after))
                      (first
                        | exact HL2.out.sixm HM.out.drew HA.out
                        | exact HL2.out.sixm HM34.out HA.out
                        | exact HL2.out.sixm HM35.out HA.out)
                      (first
                        | (go_at_call 24; refine (HCALL.out _).mono ?_; rintro e w34 ⟨rfl, hm⟩; have HM34 := hid_ (HM.out.drew.trans hm (fun _ _ => False.elim)); have HN34 := hid_ (((Mod.refl Nothing _).drew).trans hm (fun _ _ h => h) : Mod Nothing wx w34); clear hm)
                        | (go_at_call 23; refine (writeR (HT.out.mod HN34.out) HM34.out.size a.sector T HF2.out).mono ?_; rw [HG.out]; rintro e w35 ⟨rfl, ht, hm⟩; have HT35 := hid_ ht; have HM35 := hid_ (HM34.out.trans hm (fun _ _ h => h)); clear ht hm))
                    obtain ⟨c0, c1, c2', c3, c4, c5⟩ := HL2.out.sixm HM35.out HA.out
                    go_wp2_with fail
                    go_region_held3 (fun w' => w'.cell? ⟨b2, off2 + k * 6, none⟩ = some (.int .i64 a.kind) ∧ w'.cell? ⟨b2, off2 + k * 6 + 1, none⟩ = some (.int .i64 a.sector) ∧ w'.cell? ⟨b2, off2 + k * 6 + 2, none⟩ = some (.int .i64 a.bytes) ∧ w'.cell? ⟨b2, off2 + k * 6 + 3, none⟩ = some (.string a.text) ∧ w'.cell? ⟨b2, off2 + k * 6 + 4, none⟩ = some (.bool a.odd) ∧ w'.cell? ⟨b2, off2 + k * 6 + 5, none⟩ = some (.int .i64 a.after))
                      (first
                        | exact HL2.out.sixm HM35.out.drew HA.out
                        | exact HL2.out.sixm HM36.out HA.out
                        | exact HL2.out.sixm HM37.out HA.out)
                      (first
                        | (go_at_call 24; refine (HCALL.out _).mono ?_; rintro e w36 ⟨rfl, hm⟩; have HM36 := hid_ (HM35.out.drew.trans hm (fun _ _ => False.elim)); have HN36 := hid_ (((Mod.refl Nothing _).drew).trans hm (fun _ _ h => h) : Mod Nothing w35 w36); clear hm)
                        | (go_at_call 23; refine (writeL (HT35.out.mod HN36.out) HM36.out.size a.sector T HF1.out).mono ?_; rw [HS.out]; rintro e w37 ⟨rfl, ht, hm⟩; have HT37 := hid_ ht; have HM37 := hid_ (HM36.out.trans hm (fun _ _ h => h)); clear ht hm))
                    obtain ⟨c0, c1, c2', c3, c4, c5⟩ := HL2.out.sixm HM37.out HA.out
                    go_wp2_with fail
                    go_roundw
                    case rel => exact ⟨k + 1, lf, C2, by omega, by go_num, by first | rfl | go_num, HID2.out, HNC2.out, HQC2.out, by omega, HT37.out, HM37.out⟩
                    case measure => simp [intOf]; omega
                · have HG := hid_ (HID.out.bad (v := a) (by rw [HNC.out]; exact hv))
                  have HS := hid_ (DK.armd_bad HID.out (a := i3) (lf := lf) (x := i4) (y := i5) (v := a) (by rw [HNC.out]; exact hv))
                  rw [← HTE.out] at HG HS
                  go_wp2_with fail
                  go_region_held3 (fun w' => w'.cell? ⟨b2, off2 + k * 6, none⟩ = some (.int .i64 a.kind) ∧ w'.cell? ⟨b2, off2 + k * 6 + 1, none⟩ = some (.int .i64 a.sector) ∧ w'.cell? ⟨b2, off2 + k * 6 + 2, none⟩ = some (.int .i64 a.bytes) ∧ w'.cell? ⟨b2, off2 + k * 6 + 3, none⟩ = some (.string a.text) ∧ w'.cell? ⟨b2, off2 + k * 6 + 4, none⟩ = some (.bool a.odd) ∧ w'.cell? ⟨b2, off2 + k * 6 + 5, none⟩ = some (.int .i64 a.after))
                    (first
                      | exact HL2.out.sixm HM.out.drew HA.out
                      | exact HL2.out.sixm HM38.out HA.out
                      | exact HL2.out.sixm HM39.out HA.out)
                    (first
                      | (go_at_call 24; refine (HCALL.out _).mono ?_; rintro e w38 ⟨rfl, hm⟩; have HM38 := hid_ (HM.out.drew.trans hm (fun _ _ => False.elim)); have HN38 := hid_ (((Mod.refl Nothing _).drew).trans hm (fun _ _ h => h) : Mod Nothing wx w38); clear hm)
                      | (go_at_call 23; refine (writeR (HT.out.mod HN38.out) HM38.out.size a.sector T HF2.out).mono ?_; rw [HG.out]; rintro e w39 ⟨rfl, ht, hm⟩; have HT39 := hid_ ht; have HM39 := hid_ (HM38.out.trans hm (fun _ _ h => h)); clear ht hm))
                  obtain ⟨c0, c1, c2', c3, c4, c5⟩ := HL2.out.sixm HM39.out HA.out
                  go_wp2_with fail
                  go_region_held3 (fun w' => w'.cell? ⟨b2, off2 + k * 6, none⟩ = some (.int .i64 a.kind) ∧ w'.cell? ⟨b2, off2 + k * 6 + 1, none⟩ = some (.int .i64 a.sector) ∧ w'.cell? ⟨b2, off2 + k * 6 + 2, none⟩ = some (.int .i64 a.bytes) ∧ w'.cell? ⟨b2, off2 + k * 6 + 3, none⟩ = some (.string a.text) ∧ w'.cell? ⟨b2, off2 + k * 6 + 4, none⟩ = some (.bool a.odd) ∧ w'.cell? ⟨b2, off2 + k * 6 + 5, none⟩ = some (.int .i64 a.after))
                    (first
                      | exact HL2.out.sixm HM39.out.drew HA.out
                      | exact HL2.out.sixm HM40.out HA.out
                      | exact HL2.out.sixm HM41.out HA.out)
                    (first
                      | (go_at_call 24; refine (HCALL.out _).mono ?_; rintro e w40 ⟨rfl, hm⟩; have HM40 := hid_ (HM39.out.drew.trans hm (fun _ _ => False.elim)); have HN40 := hid_ (((Mod.refl Nothing _).drew).trans hm (fun _ _ h => h) : Mod Nothing w39 w40); clear hm)
                      | (go_at_call 23; refine (writeL (HT39.out.mod HN40.out) HM40.out.size a.sector T HF1.out).mono ?_; rw [HS.out]; rintro e w41 ⟨rfl, ht, hm⟩; have HT41 := hid_ ht; have HM41 := hid_ (HM40.out.trans hm (fun _ _ h => h)); clear ht hm))
                  obtain ⟨c0, c1, c2', c3, c4, c5⟩ := HL2.out.sixm HM41.out HA.out
                  go_wp2_with fail
                  go_roundw
                  case rel => exact ⟨k + 1, lf, C, by omega, by go_num, rfl, HID.out, HNC.out, by have := HQC.out; omega, hb, HT41.out, HM41.out⟩
                  case measure => simp [intOf]; omega
            · have hkn : k = n2 := by omega
              subst hkn
              have HNW := hid_ HNC.out
              have hsp : (0 ≤ i3) ∨ (i3 < 0 ∧ lf = i3) := by omega
              rcases hsp with h1 | ⟨h1, h2⟩
              · skip
                go_wp2_with fail
                refine (startL HT.out HM.out.size).mono ?_
                rintro e w42 ⟨rfl, ht, hm⟩
                have HT42 := hid_ ht
                have HM42 := hid_ (HM.out.trans hm (fun _ _ h => h))
                clear ht hm
                go_wp2_with fail
                refine (startR HT42.out HM42.out.size).mono ?_
                rintro e w43 ⟨rfl, ht, hm⟩
                have HT43 := hid_ ht
                have HM43 := hid_ (HM42.out.trans hm (fun _ _ h => h))
                clear ht hm
                obtain ⟨Z, hZ⟩ : ∃ Z : DK, Z = C.start := ⟨_, rfl⟩
                have hZ2 : (C.armd i3 lf i4 i5).start = Z := by rw [hZ]; rfl
                rw [hZ2, ← hZ] at HT43
                have HZO := hid_ (show Z.off = false by rw [hZ]; rfl)
                have HZN := hid_ (show Z.n = s by rw [hZ]; exact HNW.out)
                have HFEZ := hid_ (DK.texts_few (A := Z) (by rw [HZN.out]; omega))
                clear hZ hZ2
                go_wp2_with fail
                refine (contentsE s (fun _ _ => contentsL HT43.out HZO.out) HZN.out).mono ?_
                rintro e w45 ⟨va, rfl, hst, hm⟩
                have HM45 := hid_ (HM43.out.trans hm (fun _ _ => False.elim))
                have HTa := hid_ (HT43.out.mod hm)
                have STa := hid_ (hst)
                clear hm
                clear hst
                go_wp2_with fail
                refine (contentsE s (fun _ _ => contentsR HTa.out HZO.out) HZN.out).mono ?_
                rintro e w46 ⟨vb, rfl, hst, hm⟩
                have HM46 := hid_ (HM45.out.trans hm (fun _ _ => False.elim))
                have STb := hid_ (hst)
                have STa2 := hid_ (strs_mod STa.out hm (fun _ _ => id))
                clear hm
                clear hst
                go_wp2_with fail
                refine (same_any STa2.out STb.out HFEZ.out HFEZ.out).mono ?_
                rw [decide_eq_true rfl]
                rintro e w47 ⟨rfl, hm⟩
                have HM47 := hid_ (HM46.out.trans hm (fun _ _ => False.elim))
                clear hm
                go_wp2_with fail
                go_returns
                exact ⟨rfl, BEL.out _ HM47.out⟩
              · skip
                subst h2
                go_wp2_with fail
                refine (startL HT.out HM.out.size).mono ?_
                rintro e w48 ⟨rfl, ht, hm⟩
                have HT48 := hid_ ht
                have HM48 := hid_ (HM.out.trans hm (fun _ _ h => h))
                clear ht hm
                go_wp2_with fail
                refine (startR HT48.out HM48.out.size).mono ?_
                rintro e w49 ⟨rfl, ht, hm⟩
                have HT49 := hid_ ht
                have HM49 := hid_ (HM48.out.trans hm (fun _ _ h => h))
                clear ht hm
                obtain ⟨Z, hZ⟩ : ∃ Z : DK, Z = C.start := ⟨_, rfl⟩
                have hZ2 : (C.armd lf lf i4 i5).start = Z := by rw [hZ]; rfl
                rw [hZ2, ← hZ] at HT49
                have HZO := hid_ (show Z.off = false by rw [hZ]; rfl)
                have HZN := hid_ (show Z.n = s by rw [hZ]; exact HNW.out)
                have HFEZ := hid_ (DK.texts_few (A := Z) (by rw [HZN.out]; omega))
                clear hZ hZ2
                go_wp2_with fail
                refine (contentsE s (fun _ _ => contentsL HT49.out HZO.out) HZN.out).mono ?_
                rintro e w51 ⟨va, rfl, hst, hm⟩
                have HM51 := hid_ (HM49.out.trans hm (fun _ _ => False.elim))
                have HTa := hid_ (HT49.out.mod hm)
                have STa := hid_ (hst)
                clear hm
                clear hst
                go_wp2_with fail
                refine (contentsE s (fun _ _ => contentsR HTa.out HZO.out) HZN.out).mono ?_
                rintro e w52 ⟨vb, rfl, hst, hm⟩
                have HM52 := hid_ (HM51.out.trans hm (fun _ _ => False.elim))
                have STb := hid_ (hst)
                have STa2 := hid_ (strs_mod STa.out hm (fun _ _ => id))
                clear hm
                clear hst
                go_wp2_with fail
                refine (same_any STa2.out STb.out HFEZ.out HFEZ.out).mono ?_
                rw [decide_eq_true rfl]
                rintro e w53 ⟨rfl, hm⟩
                have HM53 := hid_ (HM52.out.trans hm (fun _ _ => False.elim))
                clear hm
                go_wp2_with fail
                go_returns
                exact ⟨rfl, BEL.out _ HM53.out⟩

end Go.Proofs.Ytbioeeccbcaljaa
