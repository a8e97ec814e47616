/- DiskDamage: the walk. -/
import Derived.Test.YtbioeeccbcaljaaC3
set_option linter.unusedVariables false
set_option linter.unusedSimpArgs false
namespace Go.Proofs.Ytbioeeccbcaljaa
open Go.RowKit

theorem DK.rot_off (A : DK) (s a m : Int) : (A.rot s a m).off = A.off := by unfold DK.rot; split <;> rfl
theorem set_twice (l : List UInt8) (j : Nat) (m : UInt8) : (l.set j (l.getD j 0 ^^^ m)).set j ((l.set j (l.getD j 0 ^^^ m)).getD j 0 ^^^ m) = l := by
  apply List.ext_getElem?
  intro i
  by_cases hj : j < l.length
  · by_cases hi : i = j
    · subst hi
      simp [hj, UInt8.xor_assoc]
    · have hi' : ¬ j = i := fun e => hi e.symm
      simp [List.getElem?_set, hi']
  · simp [List.set_eq_of_length_le, Nat.not_lt.1 hj]
theorem DK.rot_twice (A : DK) (s a m : Int) : (A.rot s a m).rot s a m = A := by
  by_cases hv : 0 ≤ s ∧ s < A.n ∧ 0 ≤ a ∧ a < 64 ∧ 0 < m ∧ m < 256
  · have e : A.rot s a m = { A with st := A.st.set (s * 64 + a).toNat ((A.st.getD (s * 64 + a).toNat 0) ^^^ UInt8.ofNat m.toNat) } := by rw [DK.rot, if_pos hv]
    rw [e]
    unfold DK.rot
    rw [if_pos hv]
    simp only [set_twice]
  · have e : A.rot s a m = A := by rw [DK.rot, if_neg hv]
    rw [e, e]


theorem bits_fact (a b m : UInt8) (e : a ^^^ b = m) : wrap64 (bits .xor .u8 (a.toNat : Int) (b.toNat : Int)) = m.toNat := by
  rw [u8_xor_nat _ _ a.toNat_lt b.toNat_lt, ← UInt8.toNat_xor, e]
  have := m.toNat_lt
  unfold wrap64
  omega
theorem DK.textAt_byte {A : DK} (hq : A.q = []) (hl : A.st.length = A.n * 64) {k j : Nat} (hk : k < A.n) (hj : j < 64) {T : ByteArray} (e : T = A.textAt k) (h : j < T.size) : T[j] = A.st.getD (k * 64 + j) 0 := by
  subst e
  have e1 : A.textAt k = ⟨((A.st.drop (k * 64)).take 64).toArray⟩ := by rw [A.sec_quiet hq]; rfl
  have h2 : k * 64 + j < A.st.length := by rw [hl]; omega
  have e2 : (A.textAt k)[j] = (⟨((A.st.drop (k * 64)).take 64).toArray⟩ : ByteArray)[j]'(by rw [← e1]; exact h) := by congr 1
  rw [e2]
  show (((A.st.drop (k * 64)).take 64).toArray)[j]'_ = _
  simp [h2]
theorem damage_bits {V Z : DK} {s a m : Int} (hz : Z = V.rot s a m) (hq : V.q = []) (hl : V.st.length = V.n * 64) {k j : Nat} {T1 T2 : ByteArray} (e1 : T1 = V.textAt k) (e2 : T2 = Z.textAt k) (hk : k < V.n) (hj : j < 64)
    (h1 : j < T1.size) (h2 : j < T2.size) :
    wrap64 (bits .xor .u8 (T1[j].toNat : Int) (T2[j].toNat : Int)) = if (0 ≤ s ∧ s < V.n ∧ 0 ≤ a ∧ a < 64 ∧ 0 < m ∧ m < 256) ∧ (k : Int) = s ∧ (j : Int) = a then m else 0 := by
  subst hz
  have hl2 : (V.rot s a m).st.length = (V.rot s a m).n * 64 := by
    rw [DK.rot_n, ← hl]; unfold DK.rot; split
    · simp
    · rfl
  have b1 := DK.textAt_byte hq hl hk hj e1 h1
  have b2 := DK.textAt_byte (A := V.rot s a m) (by rw [DK.rot_q]; exact hq) hl2 (by rw [DK.rot_n]; exact hk) hj e2 h2
  rw [b1, b2]
  by_cases hv : 0 ≤ s ∧ s < V.n ∧ 0 ≤ a ∧ a < 64 ∧ 0 < m ∧ m < 256
  · have e : (V.rot s a m).st = V.st.set (s * 64 + a).toNat ((V.st.getD (s * 64 + a).toNat 0) ^^^ UInt8.ofNat m.toNat) := by rw [DK.rot, if_pos hv]
    by_cases hkj : (k : Int) = s ∧ (j : Int) = a
    · rw [if_pos ⟨hv, hkj⟩]
      have ei : (s * 64 + a).toNat = k * 64 + j := by omega
      have hlt : k * 64 + j < V.st.length := by rw [hl]; omega
      rw [bits_fact _ _ (UInt8.ofNat m.toNat)]
      · have : m.toNat < 256 := by omega
        simp [Nat.mod_eq_of_lt this]
        omega
      · rw [e, ei]
        simp [hlt, ← UInt8.xor_assoc]
    · rw [if_neg (fun h => hkj h.2)]
      rw [bits_fact _ _ 0]
      · rfl
      · rw [e]
        have hne : (s * 64 + a).toNat ≠ k * 64 + j := by omega
        simp [List.getElem?_set, hne]
  · rw [if_neg (fun h => hv h.1)]
    have e : V.rot s a m = V := by rw [DK.rot, if_neg hv]
    rw [e, bits_fact _ _ 0]
    · rfl
    · simp


set_option maxRecDepth 100000 in
set_option maxHeartbeats 4000000 in
theorem damage_walk (w : World) (r : Nat) (hr : r < 256) (A : Option Addr) (c n : Nat) (l : List Ac) (hn : l.length = n) (hm : n ≤ 9223372036854775807) (hl : ActsAt w w.heap.size A l) (hwf : ∀ a ∈ l, Ac.Wf a) (i2 : Int) (hi2 : (Lit.int .i64 i2).wf = true) (i3 : Int) (hi3 : (Lit.int .i64 i3).wf = true) (i4 : Int) (hi4 : (Lit.int .i64 i4).wf = true) :
    Calls Try.prog 9 #[.int .u8 (r : Int), .slice A n c, .int .i64 i2, .int .i64 i3, .int .i64 i4] w fun e w' => e = .returned (.bool true) ∧ Below w.heap.size w w' := by
  have HL := hid_ hl
  have HN := hid_ hn
  have HW := hid_ hwf
  clear hl hn hwf
  go_enter Try.func9, Try.ntmps9
  obtain ⟨w0, hw0⟩ : ∃ w0, w0 = w := ⟨_, rfl⟩
  have HL := hid_ (show ActsAt w0 w0.heap.size A l by rw [hw0]; exact HL.out)
  rw [← hw0]
  clear hw0
  have BEL := hid_ (fun (w' : World) (hm : Mod (From w0.heap.size) w0 w') => (hm.below (Nat.le_refl _) (fun i hi h => absurd h (Nat.not_le.2 hi)) : Below w0.heap.size w0 w'))
  have HM0 := hid_ (Mod.refl (From w0.heap.size) w0)
  go_wp2_with fail
  refine (head_any _).mono ?_
  rintro e w1 ⟨rfl, hm⟩
  have HM1 := hid_ (HM0.out.trans hm (fun _ _ => False.elim))
  clear hm
  cases hok : okB l with
  | false =>
    go_wp2_with fail
    refine (ok_any w1 w0.heap.size A l c n HN.out (HL.out.keep (fun k hk => HM1.out.block k hk (Nat.not_le.2 hk))) hm).mono ?_
    rw [hok]
    rintro e w' ⟨rfl, hw'⟩
    obtain rfl := hw'.symm
    clear hok
    go_wp2_with fail
    go_returns
    exact ⟨rfl, BEL.out _ HM1.out⟩
  | true =>
    go_wp2_with fail
    refine (ok_any w1 w0.heap.size A l c n HN.out (HL.out.keep (fun k hk => HM1.out.block k hk (Nat.not_le.2 hk))) hm).mono ?_
    rw [hok]
    rintro e w' ⟨rfl, hw'⟩
    obtain rfl := hw'.symm
    have HOK := hid_ hok
    clear hok
    go_wp2_with fail
    refine (size_any r _ hr).mono ?_
    rintro e w' ⟨rfl, hw'⟩
    obtain rfl := hw'.symm
    have hs1 : 1 ≤ secs r := by unfold secs; omega
    have hs2 : secs r ≤ 12 := by unfold secs; omega
    rw [show 1 + r % 12 = secs r from rfl]
    obtain ⟨s, hs⟩ : ∃ s, s = secs r := ⟨_, rfl⟩
    rw [← hs] at hs1 hs2 ⊢
    clear hs
    go_wp2_with fail
    refine (newS (S := From w0.heap.size) s _ hs1 (by omega) (fun k hk => Nat.le_trans HM1.out.size hk)).mono ?_
    rintro e w2 ⟨d, rfl, hd, hm⟩
    have HD2 := hid_ hd
    have HM2 := hid_ (HM1.out.trans hm (fun _ _ => False.elim))
    clear hd hm
    go_wp2_with fail
    go_loopw [14] (fun v wr => ∃ k : Nat, k ≤ n ∧ v = .int .i64 k ∧ DiskS wr d (From w0.heap.size) ((DK.new s).acts (l.take k)) ∧ Mod (From w0.heap.size) w0 wr) (fun v _ => n - (intOf v).toNat)
    case atStart => exact ⟨0, Nat.zero_le _, rfl, HD2.out, HM2.out⟩
    case round =>
      obtain ⟨k, hk, rfl, hdk, hmod⟩ := hrel
      have HD := hid_ hdk
      have HM := hid_ hmod
      clear hdk hmod
      by_cases hlt : k < n
      · obtain ⟨a, ha⟩ : ∃ a, l[k]? = some a := ⟨_, List.getElem?_eq_getElem (by rw [HN.out]; exact hlt)⟩
        have hal : a ∈ l := List.mem_of_getElem? ha
        have HTX := hid_ (okB_text HOK.out hal)
        have HWA := hid_ (HW.out a hal).after
        have hq : ((DK.new s).acts (l.take k)).q.length < 1000000 := by
          have h1 := DK.acts_q (l.take k) (DK.new s)
          have h2 := okB_len HOK.out
          rw [List.length_take] at h1
          have h3 : (DK.new s).q.length = 0 := rfl
          omega
        have HQ := hid_ hq
        obtain ⟨b, off, hA, hb, c0, c1, c2, c3, c4, c5⟩ := (HL.out.keep (fun k hk => HM.out.block k hk (Nat.not_le.2 hk))).six ha
        have HA := hid_ ha
        subst hA
        clear ha hal hq
        go_wp2_with fail
        refine (doS HD.out (fun k hk => Nat.le_trans HM.out.size hk) a HTX.out HWA.out HQ.out).mono ?_
        rintro e w' ⟨rfl, hd', hm'⟩
        have HD' := hid_ hd'
        have HM' := hid_ (HM.out.trans hm' (fun _ _ h => h))
        clear hd' hm' c0 c1 c2 c3 c4 c5
        go_wp2
        go_roundw
        case rel => exact ⟨k + 1, by omega, by go_num, by rw [DK.acts_snoc _ _ _ _ HA.out]; exact HD'.out, HM'.out⟩
        case measure => simp [intOf]; omega
      · have hkn : k = n := by omega
        subst hkn
        have htk : l.take k = l := List.take_of_length_le (by rw [HN.out]; exact Nat.le_refl _)
        rw [htk] at HD
        clear htk hk hlt
        obtain ⟨X, hX⟩ : ∃ X, X = (DK.new s).acts l := ⟨_, rfl⟩
        rw [← hX] at HD
        have hqX : X.q.length ≤ 60 := by
          have h1 := DK.acts_q l (DK.new s)
          have h2 := okB_len HOK.out
          have h3 : (DK.new s).q.length = 0 := rfl
          rw [hX]; omega
        have hnX : X.n = s := by rw [hX, DK.acts_n]; rfl
        have HQX := hid_ hqX
        have HNX := hid_ hnX
        clear hX hnX hqX
        obtain ⟨w3, hw3⟩ : ∃ w3, w3 = wr := ⟨_, rfl⟩
        rw [← hw3] at HD HM ⊢
        clear hw3
        go_wp2_with fail
        refine (startS HD.out (fun k hk => Nat.le_trans HM.out.size hk)).mono ?_
        rintro e w4 ⟨rfl, hd, hm⟩
        have HD4 := hid_ hd
        have HM4 := hid_ (HM.out.trans hm (fun _ _ h => h))
        clear hd hm
        obtain ⟨Y, hY⟩ : ∃ Y, Y = X.start := ⟨_, rfl⟩
        rw [← hY] at HD4
        have HID := hid_ (show Y.Idle by rw [hY]; exact X.start_idle)
        have HYN := hid_ (show Y.n = s by rw [hY]; exact HNX.out)
        clear hY
        have HSY := hid_ HID.out.sync
        go_wp2_with fail
        refine (syncS HD4.out (fun k hk => Nat.le_trans HM4.out.size hk)).mono ?_
        rw [HSY.out]
        rintro e w5 ⟨rfl, hd, hm⟩
        have HD5 := hid_ hd
        have HM5 := hid_ (HM4.out.trans hm (fun _ _ h => h))
        clear hd hm
        obtain ⟨V, hV⟩ : ∃ V : DK, V = { Y with st := settleL Y.st Y.q, q := [] } := ⟨_, rfl⟩
        rw [← hV] at HD5
        have HVO := hid_ (show V.off = false by rw [hV]; exact HID.out.on)
        have HVN := hid_ (show V.n = s by rw [hV]; exact HYN.out)
        have HVQ := hid_ (show V.q = [] by rw [hV])
        have HFEW := hid_ (DK.texts_few (A := V) (by rw [HVN.out]; omega))
        clear hV
        go_wp2_with fail
        refine (contentsE s (fun _ _ => contentsS HD5.out HVO.out) HVN.out).mono ?_
        rintro e w6 ⟨va, rfl, hst, hm⟩
        have HM6 := hid_ (HM5.out.trans hm (fun _ _ => False.elim))
        have HDka := hid_ (HD5.out.mod hm)
        have STa := hid_ (hst)
        have HNa := hid_ (hm)
        clear hm
        clear hst
        have HDA := hid_ (HD5.out.beside HNa.out (g := va.ownBlock) (fun k hk => (strs_low STa.out hk).1))
        go_wp2_with fail
        refine (rotS HDA.out (fun k hk => ⟨Nat.le_trans HM6.out.size hk, fun e => by have h1 := (strs_low STa.out e).2;  omega⟩) i2 i3 i4).mono ?_
        rintro e w7 ⟨rfl, hd, hm⟩
        have HD7 := hid_ hd
        have HR1 := hid_ (hm)
        have STa1 := hid_ (strs_mod STa.out hm (fun k hk h => h.2 hk))
        have HM7 := hid_ (HM6.out.trans hm (fun _ _ h => h.1))
        clear hd hm
        obtain ⟨Z, hZ⟩ : ∃ Z : DK, Z = V.rot i2 i3 i4 := ⟨_, rfl⟩
        have HZ := hid_ hZ
        rw [← hZ] at HD7
        have HZO := hid_ (show Z.off = false by rw [hZ, DK.rot_off]; exact HVO.out)
        have HZN := hid_ (show Z.n = s by rw [hZ, DK.rot_n]; exact HVN.out)
        have HFEZ := hid_ (DK.texts_few (A := Z) (by rw [HZN.out]; omega))
        have HZZ := hid_ (show Z.rot i2 i3 i4 = V by rw [hZ, DK.rot_twice])
        clear hZ
        go_wp2_with fail
        refine (contentsE s (fun _ _ => contentsS HD7.out HZO.out) HZN.out).mono ?_
        rintro e w8 ⟨vb, rfl, hst, hm⟩
        have HM8 := hid_ (HM7.out.trans hm (fun _ _ => False.elim))
        have HDkb := hid_ (HD7.out.mod hm)
        have STb := hid_ (hst)
        have HNb := hid_ (hm)
        have STa2 := hid_ (strs_mod STa1.out hm (fun _ _ => id))
        clear hm
        clear hst
        have HDB := hid_ (HD7.out.beside HNb.out (g := vb.ownBlock) (fun k hk => (strs_low STb.out hk).1))
        go_wp2_with fail
        refine (rotS HDB.out (fun k hk => ⟨⟨Nat.le_trans HM8.out.size hk, fun e => by have h1 := (strs_low STa2.out e).2; omega⟩, fun e => by have h1 := (strs_low STb.out e).2; omega⟩) i2 i3 i4).mono ?_
        rw [HZZ.out]
        rintro e w9 ⟨rfl, hd, hm⟩
        have HD9 := hid_ hd
        have STa3 := hid_ (strs_mod STa2.out hm (fun k hk h => h.1.2 hk))
        have STb1 := hid_ (strs_mod STb.out hm (fun k hk h => h.2 hk))
        have HM9 := hid_ (HM8.out.trans hm (fun _ _ h => h.1.1))
        clear hd hm
        go_wp2_with fail
        refine (contentsE s (fun _ _ => contentsS HD9.out HVO.out) HVN.out).mono ?_
        rintro e w10 ⟨vc, rfl, hst, hm⟩
        have HM10 := hid_ (HM9.out.trans hm (fun _ _ => False.elim))
        have HDkc := hid_ (HD9.out.mod hm)
        have STc := hid_ (hst)
        have HNc := hid_ (hm)
        have STa4 := hid_ (strs_mod STa3.out hm (fun _ _ => id))
        have STb2 := hid_ (strs_mod STb1.out hm (fun _ _ => id))
        clear hm
        clear hst
        go_wp2_with fail
        refine (same_any STa4.out STc.out HFEW.out HFEW.out).mono ?_
        rw [decide_eq_true rfl]
        rintro e w11 ⟨rfl, hm⟩
        have HM11 := hid_ (HM10.out.trans hm (fun _ _ => False.elim))
        have STa5 := hid_ (strs_mod STa4.out hm (fun _ _ => id))
        have STb3 := hid_ (strs_mod STb2.out hm (fun _ _ => id))
        clear hm
        obtain ⟨ga, ca, hva, hgb, hgs, cella, -, -⟩ := STa5.out.slice (by simp [DK.texts, HVN.out]; omega)
        obtain ⟨gb, cb, hvb, hgb2, hgs2, cellb, -, -⟩ := STb3.out.slice (by simp [DK.texts, HZN.out]; omega)
        have hlenV : V.texts.length = s := by simp [DK.texts, HVN.out]
        have hlenZ : Z.texts.length = s := by simp [DK.texts, HZN.out]
        rw [hlenV] at hva
        rw [hlenZ] at hvb
        subst hva
        subst hvb
        have CA := hid_ cella
        have HVOK := hid_ HDA.out.ok
        have HZOK := hid_ HDB.out.ok
        have CB := hid_ cellb
        clear cella cellb hgb hgb2 hlenV hlenZ
        have HZE := hid_ HZ.out
        have hsp : (0 ≤ i2 ∧ i2 < s ∧ 0 ≤ i3 ∧ i3 < 64 ∧ 1 ≤ i4 ∧ i4 ≤ 255) ∨ i2 < 0 ∨ (0 ≤ i2 ∧ s ≤ i2) ∨ (0 ≤ i2 ∧ i2 < s ∧ i3 < 0) ∨ (0 ≤ i2 ∧ i2 < s ∧ 0 ≤ i3 ∧ 64 ≤ i3) ∨ (0 ≤ i2 ∧ i2 < s ∧ 0 ≤ i3 ∧ i3 < 64 ∧ i4 < 1) ∨ (0 ≤ i2 ∧ i2 < s ∧ 0 ≤ i3 ∧ i3 < 64 ∧ 1 ≤ i4 ∧ 255 < i4) := by omega
        rcases hsp with ⟨h1, h2, h3, h4, h5, h6⟩ | h1 | ⟨h1, h2⟩ | ⟨h1, h2, h3⟩ | ⟨h1, h2, h3, h4⟩ | ⟨h1, h2, h3, h4, h5⟩ | ⟨h1, h2, h3, h4, h5, h6⟩
        · skip
          go_wp2_with fail
          go_loopw [22] (fun i wr => ∃ k nq : Nat, k ≤ s ∧ i = .int .i64 k ∧ wr = (w11).drewN nq) (fun i _ => s - (intOf i).toNat)
          case atStart => exact ⟨0, 0, Nat.zero_le _, rfl, rfl⟩
          case round =>
            obtain ⟨k, nq, hk, rfl, rfl⟩ := hrel
            by_cases hlt : k < s
            · have cA : (w11).cell? ⟨ga, k, none⟩ = some (.string (V.textAt k)) := CA.out k _ (by simp [DK.texts, HVN.out, hlt])
              have cB : (w11).cell? ⟨gb, k, none⟩ = some (.string (Z.textAt k)) := CB.out k _ (by simp [DK.texts, HZN.out, hlt])
              have va := HVOK.out.textAt_size k (by rw [HVN.out]; exact hlt)
              have vb := HZOK.out.textAt_size k (by rw [HZN.out]; exact hlt)
              obtain ⟨T1, hT1⟩ : ∃ T, T = V.textAt k := ⟨_, rfl⟩
              obtain ⟨T2, hT2⟩ : ∃ T, T = Z.textAt k := ⟨_, rfl⟩
              rw [← hT1] at cA va
              rw [← hT2] at cB vb
              have HT1 := hid_ hT1
              have HT2 := hid_ hT2
              clear hT1 hT2
              go_wp2_with fail
              go_loopw [23] (fun i wr => ∃ j nq : Nat, j ≤ 64 ∧ i = .int .i64 j ∧ wr = (w11).drewN nq) (fun i _ => 64 - (intOf i).toNat)
              case atStart => exact ⟨0, nq, Nat.zero_le _, rfl, rfl⟩
              case round =>
                obtain ⟨j, nq2, hj, rfl, rfl⟩ := hrel
                by_cases hlt2 : j < 64
                · by_cases hki : (k : Int) = i2
                  · by_cases hji : (j : Int) = i3
                    · subst hki
                      subst hji
                      have q1 : (0 : Int) ≤ k := by omega
                      have q2 : (k : Int) < s := by omega
                      have q3 : (0 : Int) ≤ j := by omega
                      have q4 : (j : Int) < T1.size := by omega
                      have q5 : (j : Int) < T2.size := by omega
                      have q6 : (wrap64 (bits BinOp.xor IntKind.u8 (T1[j].toNat : Int) (T2[j].toNat : Int)) != i4) = false := by
                        rw [damage_bits HZE.out HVQ.out HVOK.out.len HT1.out HT2.out (by rw [HVN.out]; exact hlt) hlt2, HVN.out]
                        first
                          | (rw [if_pos (by omega)]; simp)
                          | (rw [if_neg (by omega)]; rfl)
                      go_wp2_with fail
                      go_quiet (fail)
                      clear q6
                      go_wp2
                      go_roundw
                      case rel => exact ⟨j + 1, _, by omega, by go_num, rfl⟩
                      case measure => simp [intOf]; omega
                    · subst hki
                      have q1 : (0 : Int) ≤ k := by omega
                      have q2 : (k : Int) < s := by omega
                      have q3 : (0 : Int) ≤ j := by omega
                      have q4 : (j : Int) < T1.size := by omega
                      have q5 : (j : Int) < T2.size := by omega
                      have q6 : (wrap64 (bits BinOp.xor IntKind.u8 (T1[j].toNat : Int) (T2[j].toNat : Int)) != 0) = false := by
                        rw [damage_bits HZE.out HVQ.out HVOK.out.len HT1.out HT2.out (by rw [HVN.out]; exact hlt) hlt2, HVN.out]
                        first
                          | (rw [if_pos (by omega)]; simp)
                          | (rw [if_neg (by omega)]; rfl)
                      go_wp2_with fail
                      go_quiet (fail)
                      clear q6
                      go_wp2
                      go_roundw
                      case rel => exact ⟨j + 1, _, by omega, by go_num, rfl⟩
                      case measure => simp [intOf]; omega
                  · skip
                    have q1 : (0 : Int) ≤ k := by omega
                    have q2 : (k : Int) < s := by omega
                    have q3 : (0 : Int) ≤ j := by omega
                    have q4 : (j : Int) < T1.size := by omega
                    have q5 : (j : Int) < T2.size := by omega
                    have q6 : (wrap64 (bits BinOp.xor IntKind.u8 (T1[j].toNat : Int) (T2[j].toNat : Int)) != 0) = false := by
                      rw [damage_bits HZE.out HVQ.out HVOK.out.len HT1.out HT2.out (by rw [HVN.out]; exact hlt) hlt2, HVN.out]
                      first
                        | (rw [if_pos (by omega)]; simp)
                        | (rw [if_neg (by omega)]; rfl)
                    go_wp2_with fail
                    go_quiet (fail)
                    clear q6
                    go_wp2
                    go_roundw
                    case rel => exact ⟨j + 1, _, by omega, by go_num, rfl⟩
                    case measure => simp [intOf]; omega
                · have hj64 : j = 64 := by omega
                  subst hj64
                  go_wp2
                  go_roundw
                  case rel => exact ⟨k + 1, _, by omega, by go_num, rfl⟩
                  case measure => simp [intOf]; omega
            · have hks : k = s := by omega
              subst hks
              go_wp2_with fail
              go_returns
              exact ⟨rfl, BEL.out _ (HM11.out.drewN _)⟩
        · skip
          go_wp2_with fail
          go_loopw [22] (fun i wr => ∃ k nq : Nat, k ≤ s ∧ i = .int .i64 k ∧ wr = (w11).drewN nq) (fun i _ => s - (intOf i).toNat)
          case atStart => exact ⟨0, 0, Nat.zero_le _, rfl, rfl⟩
          case round =>
            obtain ⟨k, nq, hk, rfl, rfl⟩ := hrel
            by_cases hlt : k < s
            · have cA : (w11).cell? ⟨ga, k, none⟩ = some (.string (V.textAt k)) := CA.out k _ (by simp [DK.texts, HVN.out, hlt])
              have cB : (w11).cell? ⟨gb, k, none⟩ = some (.string (Z.textAt k)) := CB.out k _ (by simp [DK.texts, HZN.out, hlt])
              have va := HVOK.out.textAt_size k (by rw [HVN.out]; exact hlt)
              have vb := HZOK.out.textAt_size k (by rw [HZN.out]; exact hlt)
              obtain ⟨T1, hT1⟩ : ∃ T, T = V.textAt k := ⟨_, rfl⟩
              obtain ⟨T2, hT2⟩ : ∃ T, T = Z.textAt k := ⟨_, rfl⟩
              rw [← hT1] at cA va
              rw [← hT2] at cB vb
              have HT1 := hid_ hT1
              have HT2 := hid_ hT2
              clear hT1 hT2
              go_wp2_with fail
              go_loopw [23] (fun i wr => ∃ j nq : Nat, j ≤ 64 ∧ i = .int .i64 j ∧ wr = (w11).drewN nq) (fun i _ => 64 - (intOf i).toNat)
              case atStart => exact ⟨0, nq, Nat.zero_le _, rfl, rfl⟩
              case round =>
                obtain ⟨j, nq2, hj, rfl, rfl⟩ := hrel
                by_cases hlt2 : j < 64
                · skip
                  have q1 : (0 : Int) ≤ k := by omega
                  have q2 : (k : Int) < s := by omega
                  have q3 : (0 : Int) ≤ j := by omega
                  have q4 : (j : Int) < T1.size := by omega
                  have q5 : (j : Int) < T2.size := by omega
                  have q6 : (wrap64 (bits BinOp.xor IntKind.u8 (T1[j].toNat : Int) (T2[j].toNat : Int)) != 0) = false := by
                    rw [damage_bits HZE.out HVQ.out HVOK.out.len HT1.out HT2.out (by rw [HVN.out]; exact hlt) hlt2, HVN.out]
                    first
                      | (rw [if_pos (by omega)]; simp)
                      | (rw [if_neg (by omega)]; rfl)
                  go_wp2_with fail
                  go_quiet (fail)
                  clear q6
                  go_wp2
                  go_roundw
                  case rel => exact ⟨j + 1, _, by omega, by go_num, rfl⟩
                  case measure => simp [intOf]; omega
                · have hj64 : j = 64 := by omega
                  subst hj64
                  go_wp2
                  go_roundw
                  case rel => exact ⟨k + 1, _, by omega, by go_num, rfl⟩
                  case measure => simp [intOf]; omega
            · have hks : k = s := by omega
              subst hks
              go_wp2_with fail
              go_returns
              exact ⟨rfl, BEL.out _ (HM11.out.drewN _)⟩
        · skip
          go_wp2_with fail
          go_loopw [22] (fun i wr => ∃ k nq : Nat, k ≤ s ∧ i = .int .i64 k ∧ wr = (w11).drewN nq) (fun i _ => s - (intOf i).toNat)
          case atStart => exact ⟨0, 0, Nat.zero_le _, rfl, rfl⟩
          case round =>
            obtain ⟨k, nq, hk, rfl, rfl⟩ := hrel
            by_cases hlt : k < s
            · have cA : (w11).cell? ⟨ga, k, none⟩ = some (.string (V.textAt k)) := CA.out k _ (by simp [DK.texts, HVN.out, hlt])
              have cB : (w11).cell? ⟨gb, k, none⟩ = some (.string (Z.textAt k)) := CB.out k _ (by simp [DK.texts, HZN.out, hlt])
              have va := HVOK.out.textAt_size k (by rw [HVN.out]; exact hlt)
              have vb := HZOK.out.textAt_size k (by rw [HZN.out]; exact hlt)
              obtain ⟨T1, hT1⟩ : ∃ T, T = V.textAt k := ⟨_, rfl⟩
              obtain ⟨T2, hT2⟩ : ∃ T, T = Z.textAt k := ⟨_, rfl⟩
              rw [← hT1] at cA va
              rw [← hT2] at cB vb
              have HT1 := hid_ hT1
              have HT2 := hid_ hT2
              clear hT1 hT2
              go_wp2_with fail
              go_loopw [23] (fun i wr => ∃ j nq : Nat, j ≤ 64 ∧ i = .int .i64 j ∧ wr = (w11).drewN nq) (fun i _ => 64 - (intOf i).toNat)
              case atStart => exact ⟨0, nq, Nat.zero_le _, rfl, rfl⟩
              case round =>
                obtain ⟨j, nq2, hj, rfl, rfl⟩ := hrel
                by_cases hlt2 : j < 64
                · skip
                  have q1 : (0 : Int) ≤ k := by omega
                  have q2 : (k : Int) < s := by omega
                  have q3 : (0 : Int) ≤ j := by omega
                  have q4 : (j : Int) < T1.size := by omega
                  have q5 : (j : Int) < T2.size := by omega
                  have q6 : (wrap64 (bits BinOp.xor IntKind.u8 (T1[j].toNat : Int) (T2[j].toNat : Int)) != 0) = false := by
                    rw [damage_bits HZE.out HVQ.out HVOK.out.len HT1.out HT2.out (by rw [HVN.out]; exact hlt) hlt2, HVN.out]
                    first
                      | (rw [if_pos (by omega)]; simp)
                      | (rw [if_neg (by omega)]; rfl)
                  go_wp2_with fail
                  go_quiet (fail)
                  clear q6
                  go_wp2
                  go_roundw
                  case rel => exact ⟨j + 1, _, by omega, by go_num, rfl⟩
                  case measure => simp [intOf]; omega
                · have hj64 : j = 64 := by omega
                  subst hj64
                  go_wp2
                  go_roundw
                  case rel => exact ⟨k + 1, _, by omega, by go_num, rfl⟩
                  case measure => simp [intOf]; omega
            · have hks : k = s := by omega
              subst hks
              go_wp2_with fail
              go_returns
              exact ⟨rfl, BEL.out _ (HM11.out.drewN _)⟩
        · skip
          go_wp2_with fail
          go_loopw [22] (fun i wr => ∃ k nq : Nat, k ≤ s ∧ i = .int .i64 k ∧ wr = (w11).drewN nq) (fun i _ => s - (intOf i).toNat)
          case atStart => exact ⟨0, 0, Nat.zero_le _, rfl, rfl⟩
          case round =>
            obtain ⟨k, nq, hk, rfl, rfl⟩ := hrel
            by_cases hlt : k < s
            · have cA : (w11).cell? ⟨ga, k, none⟩ = some (.string (V.textAt k)) := CA.out k _ (by simp [DK.texts, HVN.out, hlt])
              have cB : (w11).cell? ⟨gb, k, none⟩ = some (.string (Z.textAt k)) := CB.out k _ (by simp [DK.texts, HZN.out, hlt])
              have va := HVOK.out.textAt_size k (by rw [HVN.out]; exact hlt)
              have vb := HZOK.out.textAt_size k (by rw [HZN.out]; exact hlt)
              obtain ⟨T1, hT1⟩ : ∃ T, T = V.textAt k := ⟨_, rfl⟩
              obtain ⟨T2, hT2⟩ : ∃ T, T = Z.textAt k := ⟨_, rfl⟩
              rw [← hT1] at cA va
              rw [← hT2] at cB vb
              have HT1 := hid_ hT1
              have HT2 := hid_ hT2
              clear hT1 hT2
              go_wp2_with fail
              go_loopw [23] (fun i wr => ∃ j nq : Nat, j ≤ 64 ∧ i = .int .i64 j ∧ wr = (w11).drewN nq) (fun i _ => 64 - (intOf i).toNat)
              case atStart => exact ⟨0, nq, Nat.zero_le _, rfl, rfl⟩
              case round =>
                obtain ⟨j, nq2, hj, rfl, rfl⟩ := hrel
                by_cases hlt2 : j < 64
                · skip
                  have q1 : (0 : Int) ≤ k := by omega
                  have q2 : (k : Int) < s := by omega
                  have q3 : (0 : Int) ≤ j := by omega
                  have q4 : (j : Int) < T1.size := by omega
                  have q5 : (j : Int) < T2.size := by omega
                  have q6 : (wrap64 (bits BinOp.xor IntKind.u8 (T1[j].toNat : Int) (T2[j].toNat : Int)) != 0) = false := by
                    rw [damage_bits HZE.out HVQ.out HVOK.out.len HT1.out HT2.out (by rw [HVN.out]; exact hlt) hlt2, HVN.out]
                    first
                      | (rw [if_pos (by omega)]; simp)
                      | (rw [if_neg (by omega)]; rfl)
                  go_wp2_with fail
                  go_quiet (fail)
                  clear q6
                  go_wp2
                  go_roundw
                  case rel => exact ⟨j + 1, _, by omega, by go_num, rfl⟩
                  case measure => simp [intOf]; omega
                · have hj64 : j = 64 := by omega
                  subst hj64
                  go_wp2
                  go_roundw
                  case rel => exact ⟨k + 1, _, by omega, by go_num, rfl⟩
                  case measure => simp [intOf]; omega
            · have hks : k = s := by omega
              subst hks
              go_wp2_with fail
              go_returns
              exact ⟨rfl, BEL.out _ (HM11.out.drewN _)⟩
        · skip
          go_wp2_with fail
          go_loopw [22] (fun i wr => ∃ k nq : Nat, k ≤ s ∧ i = .int .i64 k ∧ wr = (w11).drewN nq) (fun i _ => s - (intOf i).toNat)
          case atStart => exact ⟨0, 0, Nat.zero_le _, rfl, rfl⟩
          case round =>
            obtain ⟨k, nq, hk, rfl, rfl⟩ := hrel
            by_cases hlt : k < s
            · have cA : (w11).cell? ⟨ga, k, none⟩ = some (.string (V.textAt k)) := CA.out k _ (by simp [DK.texts, HVN.out, hlt])
              have cB : (w11).cell? ⟨gb, k, none⟩ = some (.string (Z.textAt k)) := CB.out k _ (by simp [DK.texts, HZN.out, hlt])
              have va := HVOK.out.textAt_size k (by rw [HVN.out]; exact hlt)
              have vb := HZOK.out.textAt_size k (by rw [HZN.out]; exact hlt)
              obtain ⟨T1, hT1⟩ : ∃ T, T = V.textAt k := ⟨_, rfl⟩
              obtain ⟨T2, hT2⟩ : ∃ T, T = Z.textAt k := ⟨_, rfl⟩
              rw [← hT1] at cA va
              rw [← hT2] at cB vb
              have HT1 := hid_ hT1
              have HT2 := hid_ hT2
              clear hT1 hT2
              go_wp2_with fail
              go_loopw [23] (fun i wr => ∃ j nq : Nat, j ≤ 64 ∧ i = .int .i64 j ∧ wr = (w11).drewN nq) (fun i _ => 64 - (intOf i).toNat)
              case atStart => exact ⟨0, nq, Nat.zero_le _, rfl, rfl⟩
              case round =>
                obtain ⟨j, nq2, hj, rfl, rfl⟩ := hrel
                by_cases hlt2 : j < 64
                · skip
                  have q1 : (0 : Int) ≤ k := by omega
                  have q2 : (k : Int) < s := by omega
                  have q3 : (0 : Int) ≤ j := by omega
                  have q4 : (j : Int) < T1.size := by omega
                  have q5 : (j : Int) < T2.size := by omega
                  have q6 : (wrap64 (bits BinOp.xor IntKind.u8 (T1[j].toNat : Int) (T2[j].toNat : Int)) != 0) = false := by
                    rw [damage_bits HZE.out HVQ.out HVOK.out.len HT1.out HT2.out (by rw [HVN.out]; exact hlt) hlt2, HVN.out]
                    first
                      | (rw [if_pos (by omega)]; simp)
                      | (rw [if_neg (by omega)]; rfl)
                  go_wp2_with fail
                  go_quiet (fail)
                  clear q6
                  go_wp2
                  go_roundw
                  case rel => exact ⟨j + 1, _, by omega, by go_num, rfl⟩
                  case measure => simp [intOf]; omega
                · have hj64 : j = 64 := by omega
                  subst hj64
                  go_wp2
                  go_roundw
                  case rel => exact ⟨k + 1, _, by omega, by go_num, rfl⟩
                  case measure => simp [intOf]; omega
            · have hks : k = s := by omega
              subst hks
              go_wp2_with fail
              go_returns
              exact ⟨rfl, BEL.out _ (HM11.out.drewN _)⟩
        · skip
          go_wp2_with fail
          go_loopw [22] (fun i wr => ∃ k nq : Nat, k ≤ s ∧ i = .int .i64 k ∧ wr = (w11).drewN nq) (fun i _ => s - (intOf i).toNat)
          case atStart => exact ⟨0, 0, Nat.zero_le _, rfl, rfl⟩
          case round =>
            obtain ⟨k, nq, hk, rfl, rfl⟩ := hrel
            by_cases hlt : k < s
            · have cA : (w11).cell? ⟨ga, k, none⟩ = some (.string (V.textAt k)) := CA.out k _ (by simp [DK.texts, HVN.out, hlt])
              have cB : (w11).cell? ⟨gb, k, none⟩ = some (.string (Z.textAt k)) := CB.out k _ (by simp [DK.texts, HZN.out, hlt])
              have va := HVOK.out.textAt_size k (by rw [HVN.out]; exact hlt)
              have vb := HZOK.out.textAt_size k (by rw [HZN.out]; exact hlt)
              obtain ⟨T1, hT1⟩ : ∃ T, T = V.textAt k := ⟨_, rfl⟩
              obtain ⟨T2, hT2⟩ : ∃ T, T = Z.textAt k := ⟨_, rfl⟩
              rw [← hT1] at cA va
              rw [← hT2] at cB vb
              have HT1 := hid_ hT1
              have HT2 := hid_ hT2
              clear hT1 hT2
              go_wp2_with fail
              go_loopw [23] (fun i wr => ∃ j nq : Nat, j ≤ 64 ∧ i = .int .i64 j ∧ wr = (w11).drewN nq) (fun i _ => 64 - (intOf i).toNat)
              case atStart => exact ⟨0, nq, Nat.zero_le _, rfl, rfl⟩
              case round =>
                obtain ⟨j, nq2, hj, rfl, rfl⟩ := hrel
                by_cases hlt2 : j < 64
                · skip
                  have q1 : (0 : Int) ≤ k := by omega
                  have q2 : (k : Int) < s := by omega
                  have q3 : (0 : Int) ≤ j := by omega
                  have q4 : (j : Int) < T1.size := by omega
                  have q5 : (j : Int) < T2.size := by omega
                  have q6 : (wrap64 (bits BinOp.xor IntKind.u8 (T1[j].toNat : Int) (T2[j].toNat : Int)) != 0) = false := by
                    rw [damage_bits HZE.out HVQ.out HVOK.out.len HT1.out HT2.out (by rw [HVN.out]; exact hlt) hlt2, HVN.out]
                    first
                      | (rw [if_pos (by omega)]; simp)
                      | (rw [if_neg (by omega)]; rfl)
                  go_wp2_with fail
                  go_quiet (fail)
                  clear q6
                  go_wp2
                  go_roundw
                  case rel => exact ⟨j + 1, _, by omega, by go_num, rfl⟩
                  case measure => simp [intOf]; omega
                · have hj64 : j = 64 := by omega
                  subst hj64
                  go_wp2
                  go_roundw
                  case rel => exact ⟨k + 1, _, by omega, by go_num, rfl⟩
                  case measure => simp [intOf]; omega
            · have hks : k = s := by omega
              subst hks
              go_wp2_with fail
              go_returns
              exact ⟨rfl, BEL.out _ (HM11.out.drewN _)⟩
        · skip
          have hd : decide (i4 ≤ 255) = false := decide_eq_false (by omega)
          go_wp2_with fail
          try rw [hd]
          go_loopw [22] (fun i wr => ∃ k nq : Nat, k ≤ s ∧ i = .int .i64 k ∧ wr = (w11).drewN nq) (fun i _ => s - (intOf i).toNat)
          case atStart => exact ⟨0, 0, Nat.zero_le _, rfl, rfl⟩
          case round =>
            obtain ⟨k, nq, hk, rfl, rfl⟩ := hrel
            by_cases hlt : k < s
            · have cA : (w11).cell? ⟨ga, k, none⟩ = some (.string (V.textAt k)) := CA.out k _ (by simp [DK.texts, HVN.out, hlt])
              have cB : (w11).cell? ⟨gb, k, none⟩ = some (.string (Z.textAt k)) := CB.out k _ (by simp [DK.texts, HZN.out, hlt])
              have va := HVOK.out.textAt_size k (by rw [HVN.out]; exact hlt)
              have vb := HZOK.out.textAt_size k (by rw [HZN.out]; exact hlt)
              obtain ⟨T1, hT1⟩ : ∃ T, T = V.textAt k := ⟨_, rfl⟩
              obtain ⟨T2, hT2⟩ : ∃ T, T = Z.textAt k := ⟨_, rfl⟩
              rw [← hT1] at cA va
              rw [← hT2] at cB vb
              have HT1 := hid_ hT1
              have HT2 := hid_ hT2
              clear hT1 hT2
              go_wp2_with fail
              go_loopw [23] (fun i wr => ∃ j nq : Nat, j ≤ 64 ∧ i = .int .i64 j ∧ wr = (w11).drewN nq) (fun i _ => 64 - (intOf i).toNat)
              case atStart => exact ⟨0, nq, Nat.zero_le _, rfl, rfl⟩
              case round =>
                obtain ⟨j, nq2, hj, rfl, rfl⟩ := hrel
                by_cases hlt2 : j < 64
                · skip
                  have q1 : (0 : Int) ≤ k := by omega
                  have q2 : (k : Int) < s := by omega
                  have q3 : (0 : Int) ≤ j := by omega
                  have q4 : (j : Int) < T1.size := by omega
                  have q5 : (j : Int) < T2.size := by omega
                  have q6 : (wrap64 (bits BinOp.xor IntKind.u8 (T1[j].toNat : Int) (T2[j].toNat : Int)) != 0) = false := by
                    rw [damage_bits HZE.out HVQ.out HVOK.out.len HT1.out HT2.out (by rw [HVN.out]; exact hlt) hlt2, HVN.out]
                    first
                      | (rw [if_pos (by omega)]; simp)
                      | (rw [if_neg (by omega)]; rfl)
                  go_wp2_with fail
                  go_quiet (fail)
                  clear q6
                  go_wp2
                  go_roundw
                  case rel => exact ⟨j + 1, _, by omega, by go_num, rfl⟩
                  case measure => simp [intOf]; omega
                · have hj64 : j = 64 := by omega
                  subst hj64
                  go_wp2
                  go_roundw
                  case rel => exact ⟨k + 1, _, by omega, by go_num, rfl⟩
                  case measure => simp [intOf]; omega
            · have hks : k = s := by omega
              subst hks
              go_wp2_with fail
              go_returns
              exact ⟨rfl, BEL.out _ (HM11.out.drewN _)⟩

end Go.Proofs.Ytbioeeccbcaljaa
