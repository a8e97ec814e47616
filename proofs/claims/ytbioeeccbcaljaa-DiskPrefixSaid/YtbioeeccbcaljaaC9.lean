/- The contents behind the first writes. -/
import Derived.Test.YtbioeeccbcaljaaC8
set_option linter.unusedVariables false
set_option linter.unusedSimpArgs false
namespace Go.Proofs.Ytbioeeccbcaljaa
open Go.RowKit

def synced (s : Nat) (l : List Ac) : DK :=
  { ((DK.new s).acts l).start with st := settleL ((DK.new s).acts l).start.st ((DK.new s).acts l).start.q, q := [] }
theorem StrsAt.lower {w : World} {B B' : Nat} {v : Value} {l : List ByteArray} (h : StrsAt w B v l) (hB : B' ≤ B) : StrsAt w B' v l := by
  refine ⟨h.1, ?_⟩
  rcases h.2 with h2 | ⟨g, cap, cur, hv, hg, r⟩
  · exact .inl h2
  · exact .inr ⟨g, cap, cur, hv, Nat.le_trans hB hg, r⟩
theorem pushes_split (s : Nat) (l : List Ac) (k : Nat) : pushes s l = pushes s (l.take k) ++ pushes s (l.drop k) := by
  unfold pushes
  rw [← List.map_append, ← List.filter_append, List.take_append_drop]
theorem pushes_first {s k K : Nat} {l : List Ac} (h : (pushes s (l.take k)).length = K) : (pushes s l).take K = pushes s (l.take k) := by
  rw [pushes_split s l k, List.take_append_of_le_length (by omega), List.take_of_length_le (by omega)]

set_option maxRecDepth 100000 in
set_option maxHeartbeats 1000000 in
theorem firsts_any (w : World) (s : Nat) (hs1 : 1 ≤ s) (hs2 : s ≤ 12) (A : Option Addr) (c n : Nat) (l : List Ac) (hn : l.length = n) (hm : n ≤ 9223372036854775807) (hl : ActsAt w w.heap.size A l) (hwf : ∀ a ∈ l, Ac.Wf a)
    (A2 : Option Addr) (c2 n2 : Nat) (l2 : List Ac) (hn2 : l2.length = n2) (hm2 : n2 ≤ 9223372036854775807) (hl2 : ActsAt w w.heap.size A2 l2) (hwf2 : ∀ a ∈ l2, Ac.Wf a) (K : Nat) (hK : K ≤ 1000) (hok : okB l = true) (hok2 : okB l2 = true) :
    Calls Try.prog 26 #[.int .i64 s, .slice A n c, .slice A2 n2 c2, .int .i64 K] w fun e w' => ∃ v, e = .returned (.tuple #[v, .bool true]) ∧ StrsAt w' w.heap.size v ((synced s l).more ((pushes s l2).take K)).texts ∧ Mod Nothing w w' := by
  have HOK := hid_ hok
  have HOK2 := hid_ hok2
  clear hok hok2
  have HL := hid_ hl
  have HN := hid_ hn
  have HW := hid_ hwf
  clear hl hn hwf
  have HL2 := hid_ hl2
  have HN2 := hid_ hn2
  have HW2 := hid_ hwf2
  clear hl2 hn2 hwf2
  go_enter Try.func26, Try.ntmps26
  obtain ⟨w0, hw0⟩ : ∃ w0, w0 = w := ⟨_, rfl⟩
  have HL := hid_ (show ActsAt w0 w0.heap.size A l by rw [hw0]; exact HL.out)
  have HL2 := hid_ (show ActsAt w0 w0.heap.size A2 l2 by rw [hw0]; exact HL2.out)
  rw [← hw0]
  clear hw0
  have BEL := hid_ (fun (w' : World) (hm : Mod (From w0.heap.size) w0 w') => (hm.below (Nat.le_refl _) (fun i hi h => absurd h (Nat.not_le.2 hi)) : Below w0.heap.size w0 w'))
  have HM0 := hid_ (Mod.refl (From w0.heap.size) w0)
  go_wp2_with fail
  refine (newS (S := From w0.heap.size) s _ hs1 (by omega) (fun k hk => Nat.le_trans HM0.out.size hk)).mono ?_
  rintro e w1 ⟨d, rfl, hd, hm⟩
  have HD1 := hid_ hd
  have HM1 := hid_ (HM0.out.trans hm (fun _ _ => False.elim))
  clear hd hm
  go_wp2_with fail
  go_loopw [11] (fun v wr => ∃ k : Nat, k ≤ n ∧ v = .int .i64 k ∧ DiskS wr d (From w0.heap.size) ((DK.new s).acts (l.take k)) ∧ Mod (From w0.heap.size) w0 wr) (fun v _ => n - (intOf v).toNat)
  case atStart => exact ⟨0, Nat.zero_le _, rfl, HD1.out, HM1.out⟩
  case round =>
    obtain ⟨k, hk, rfl, hdk, hmod⟩ := hrel
    have HD := hid_ hdk
    have HM := hid_ hmod
    clear hdk hmod
    by_cases hlt : k < n
    · obtain ⟨a, ha⟩ : ∃ a, l[k]? = some a := ⟨_, List.getElem?_eq_getElem (by rw [HN.out]; exact hlt)⟩
      have hal : a ∈ l := List.mem_of_getElem? ha
      have HTX := hid_ (okB_text HOK.out hal)
      have HWA := hid_ (HW.out a hal).after
      have hq : ((DK.new s).acts (l.take k)).q.length < 1000000 := by
        have h1 := DK.acts_q (l.take k) (DK.new s)
        have h2 := okB_len HOK.out
        rw [List.length_take] at h1
        have h3 : (DK.new s).q.length = 0 := rfl
        omega
      have HQ := hid_ hq
      obtain ⟨b, off, hA, hb, c0, c1, c2, c3, c4, c5⟩ := (HL.out.keep (fun k hk => HM.out.block k hk (Nat.not_le.2 hk))).six ha
      have HA := hid_ ha
      subst hA
      clear ha hal hq
      go_wp2_with fail
      refine (doS HD.out (fun k hk => Nat.le_trans HM.out.size hk) a HTX.out HWA.out HQ.out).mono ?_
      rintro e w' ⟨rfl, hd', hm'⟩
      have HD' := hid_ hd'
      have HM' := hid_ (HM.out.trans hm' (fun _ _ h => h))
      clear hd' hm' c0 c1 c2 c3 c4 c5
      go_wp2
      go_roundw
      case rel => exact ⟨k + 1, by omega, by go_num, by rw [DK.acts_snoc _ _ _ _ HA.out]; exact HD'.out, HM'.out⟩
      case measure => simp [intOf]; omega
    · have hkn : k = n := by omega
      subst hkn
      have htk : l.take k = l := List.take_of_length_le (by rw [HN.out]; exact Nat.le_refl _)
      rw [htk] at HD
      clear htk hk hlt
      obtain ⟨X, hX⟩ : ∃ X, X = (DK.new s).acts l := ⟨_, rfl⟩
      rw [← hX] at HD
      have hqX : X.q.length ≤ 60 := by
        have h1 := DK.acts_q l (DK.new s)
        have h2 := okB_len HOK.out
        have h3 : (DK.new s).q.length = 0 := rfl
        rw [hX]; omega
      have hnX : X.n = s := by rw [hX, DK.acts_n]; rfl
      have HQX := hid_ hqX
      have HNX := hid_ hnX
      have HXE := hid_ hX
      clear hX hnX hqX
      obtain ⟨w2, hw2⟩ : ∃ w2, w2 = wr := ⟨_, rfl⟩
      rw [← hw2] at HD HM ⊢
      clear hw2
      go_wp2_with fail
      refine (startS HD.out (fun k hk => Nat.le_trans HM.out.size hk)).mono ?_
      rintro e w3 ⟨rfl, hd, hm⟩
      have HD3 := hid_ hd
      have HM3 := hid_ (HM.out.trans hm (fun _ _ h => h))
      clear hd hm
      obtain ⟨Y, hY⟩ : ∃ Y, Y = X.start := ⟨_, rfl⟩
      rw [← hY] at HD3
      have HID0 := hid_ (show Y.Idle by rw [hY]; exact X.start_idle)
      have HYN := hid_ (show Y.n = s by rw [hY]; exact HNX.out)
      have HYE := hid_ hY
      clear hY
      have HSY := hid_ HID0.out.sync
      go_wp2_with fail
      refine (syncS HD3.out (fun k hk => Nat.le_trans HM3.out.size hk)).mono ?_
      rw [HSY.out]
      rintro e w4 ⟨rfl, hd, hm⟩
      have HD4 := hid_ hd
      have HM4 := hid_ (HM3.out.trans hm (fun _ _ h => h))
      clear hd hm
      obtain ⟨V, hV⟩ : ∃ V : DK, V = { Y with st := settleL Y.st Y.q, q := [] } := ⟨_, rfl⟩
      rw [← hV] at HD4
      have HID := hid_ (show V.Idle by rw [hV]; exact HID0.out.synced)
      have HVO := hid_ HID.out.on
      have HVN := hid_ (show V.n = s by rw [hV]; exact HYN.out)
      have HVQ := hid_ (show V.q = [] by rw [hV])
      have HVOK := hid_ HD4.out.ok
      have HVE := hid_ (show V = synced s l by rw [hV, HYE.out, HXE.out]; rfl)
      clear hV
      go_wp2_with fail
      go_loopw [12, 13] (fun dn v wr => ∃ k : Nat, k ≤ n2 ∧ v = .int .i64 k ∧ dn = .int .i64 ((pushes s (l2.take k)).length : Nat) ∧ (pushes s (l2.take k)).length ≤ K ∧ DiskS wr d (From w0.heap.size) (V.more (pushes s (l2.take k))) ∧ Mod (From w0.heap.size) w0 wr) (fun _ v _ => n2 - (intOf v).toNat)
      case atStart => exact ⟨0, Nat.zero_le _, rfl, rfl, Nat.zero_le _, by rw [show V.more (pushes s (l2.take 0)) = V from V.more_nil]; exact HD4.out, HM4.out⟩
      case round =>
        obtain ⟨k, hk, rfl, rfl, hdn, hdk, hmod⟩ := hrel
        have HD := hid_ hdk
        have HM := hid_ hmod
        clear hdk hmod
        obtain ⟨dn, hdne⟩ : ∃ dn, dn = (pushes s (l2.take k)).length := ⟨_, rfl⟩
        rw [← hdne] at hdn ⊢
        have HDN := hid_ hdne
        clear hdne
        by_cases hlt : k < n2 ∧ dn < K
        · obtain ⟨hlt, hlt2⟩ := hlt
          obtain ⟨a, ha⟩ : ∃ a, l2[k]? = some a := ⟨_, List.getElem?_eq_getElem (by rw [HN2.out]; exact hlt)⟩
          have hal : a ∈ l2 := List.mem_of_getElem? ha
          have HTX := hid_ (okB_text HOK2.out hal)
          have HWA := hid_ (HW2.out a hal)
          have HPK := hid_ (pushes_snoc s l2 k a ha)
          have hq : (V.more (pushes s (l2.take k))).q.length < 1000000 := by
            have h1 := pushes_len s (l2.take k)
            have h2 := okB_len HOK2.out
            rw [List.length_take] at h1
            simp [DK.more, HVQ.out]
            omega
          have HQ := hid_ hq
          obtain ⟨P, hP⟩ : ∃ P, P = pushes s (l2.take k) := ⟨_, rfl⟩
          rw [← hP] at HD HPK HQ HDN
          obtain ⟨b2, off2, hA, hb, c0, c1, c2', c3, c4, c5⟩ := (HL2.out.keep (fun k hk => HM.out.block k hk (Nat.not_le.2 hk))).six ha
          subst hA
          have HAK := hid_ ha
          clear ha hal hq
          have HPE0 := hid_ hP
          clear hP
          have HUP := hid_ (show Up (From w0.heap.size) wr from fun k hk => Nat.le_trans HM.out.size hk)
          have HBL2 := hid_ (show b2 < wr.heap.size from Nat.lt_of_lt_of_le hb HM.out.size)
          have HBS := hid_ (show ¬ ((From w0.heap.size) b2) from fun h => absurd hb (Nat.not_lt.2 h))
          clear hb
          have HWR := hid_ (DK.more_write HID.out P a)
          obtain ⟨T, hT⟩ : ∃ T, T = a.txt := ⟨_, rfl⟩
          have HCALL := hid_ (fun w => show Calls Try.prog 24 #[a.val] w (TextPost T w) by rw [hT]; exact text_any a w HTX.out)
          by_cases hv : goodW s a
          · skip
            have hwr : (V.more P).write a.sector a.txt = (0, V.more (P ++ [(a.sector.toNat, a.txt)])) := by rw [HWR.out, if_pos (by rw [HVN.out]; exact hv)]
            rw [if_pos hv] at HPK
            have HGV := hid_ hv
            obtain ⟨v1, v2, -⟩ := hv
            obtain ⟨q, hqe⟩ := Int.eq_ofNat_of_zero_le v1
            rw [← hT] at hwr HPK
            have HTE := hid_ hT
            clear hT HWR HTX
            obtain ⟨kind, sector, bytes, text, odd, after⟩ := a
            simp only at hqe v1 v2 hwr c0 c1 c2' c3 c4 c5 HPK
            subst hqe
            simp only [Int.toNat_natCast] at hwr HPK
            have HW := hid_ hwr
            clear hwr
            have hqs : q < s := by omega
            go_wp2_with fail
            go_region_held3 (fun w' => w'.cell? ⟨b2, off2 + k * 6, none⟩ = some (.int .i64 kind) ∧ w'.cell? ⟨b2, off2 + k * 6 + 1, none⟩ = some (.int .i64 q) ∧ w'.cell? ⟨b2, off2 + k * 6 + 2, none⟩ = some (.int .i64 bytes) ∧ w'.cell? ⟨b2, off2 + k * 6 + 3, none⟩ = some (.string text) ∧ w'.cell? ⟨b2, off2 + k * 6 + 4, none⟩ = some (.bool odd) ∧ w'.cell? ⟨b2, off2 + k * 6 + 5, none⟩ = some (.int .i64 after))
              (first
                | exact ⟨c0, c1, c2', c3, c4, c5⟩
                | exact ⟨(HN1.out.cell (p := ⟨b2, _, none⟩) HBL2.out id).trans c0, (HN1.out.cell (p := ⟨b2, _, none⟩) HBL2.out id).trans c1, (HN1.out.cell (p := ⟨b2, _, none⟩) HBL2.out id).trans c2', (HN1.out.cell (p := ⟨b2, _, none⟩) HBL2.out id).trans c3, (HN1.out.cell (p := ⟨b2, _, none⟩) HBL2.out id).trans c4, (HN1.out.cell (p := ⟨b2, _, none⟩) HBL2.out id).trans c5⟩
                | exact ⟨(HN2'.out.cell (p := ⟨b2, _, none⟩) HBL2.out HBS.out).trans c0, (HN2'.out.cell (p := ⟨b2, _, none⟩) HBL2.out HBS.out).trans c1, (HN2'.out.cell (p := ⟨b2, _, none⟩) HBL2.out HBS.out).trans c2', (HN2'.out.cell (p := ⟨b2, _, none⟩) HBL2.out HBS.out).trans c3, (HN2'.out.cell (p := ⟨b2, _, none⟩) HBL2.out HBS.out).trans c4, (HN2'.out.cell (p := ⟨b2, _, none⟩) HBL2.out HBS.out).trans c5⟩)
              (first
                | (go_at_call 24; refine (HCALL.out _).mono ?_; rintro e x1 ⟨rfl, hm⟩; have HN1 := hid_ (((Mod.refl Nothing _).drew).trans hm (fun _ _ h => h) : Mod Nothing wr x1); clear hm)
                | (go_at_call 23; refine (writeS (HD.out.mod HN1.out) (HUP.out.mod HN1.out) (q : Int) T HQ.out).mono ?_; rw [HW.out]; rintro e x2 ⟨rfl, hd, hm⟩; have HD2 := hid_ hd; have HN2' := hid_ (HN1.out.trans2 hm); clear hd hm))
            go_wp2_with fail
            go_roundw
            case rel => exact ⟨k + 1, by omega, by go_num, by rw [HPK.out, List.length_append, ← HDN.out]; go_num, by rw [HPK.out, List.length_append, ← HDN.out]; simp; omega, by rw [HPK.out]; exact HD2.out, HM.out.trans HN2'.out (fun _ _ h => h)⟩
            case measure => simp [intOf]; omega
          · skip
            have hwr : (V.more P).write a.sector a.txt = (1, V.more P) := by rw [HWR.out, if_neg (by rw [HVN.out]; exact hv)]
            rw [if_neg hv, List.append_nil] at HPK
            rw [← hT] at hwr
            clear hT HWR HTX hv
            obtain ⟨kind, sector, bytes, text, odd, after⟩ := a
            simp only at hwr c0 c1 c2' c3 c4 c5
            have HW := hid_ hwr
            clear hwr
            go_wp2_with fail
            go_region_held3 (fun w' => w'.cell? ⟨b2, off2 + k * 6, none⟩ = some (.int .i64 kind) ∧ w'.cell? ⟨b2, off2 + k * 6 + 1, none⟩ = some (.int .i64 sector) ∧ w'.cell? ⟨b2, off2 + k * 6 + 2, none⟩ = some (.int .i64 bytes) ∧ w'.cell? ⟨b2, off2 + k * 6 + 3, none⟩ = some (.string text) ∧ w'.cell? ⟨b2, off2 + k * 6 + 4, none⟩ = some (.bool odd) ∧ w'.cell? ⟨b2, off2 + k * 6 + 5, none⟩ = some (.int .i64 after))
              (first
                | exact ⟨c0, c1, c2', c3, c4, c5⟩
                | exact ⟨(HN1.out.cell (p := ⟨b2, _, none⟩) HBL2.out id).trans c0, (HN1.out.cell (p := ⟨b2, _, none⟩) HBL2.out id).trans c1, (HN1.out.cell (p := ⟨b2, _, none⟩) HBL2.out id).trans c2', (HN1.out.cell (p := ⟨b2, _, none⟩) HBL2.out id).trans c3, (HN1.out.cell (p := ⟨b2, _, none⟩) HBL2.out id).trans c4, (HN1.out.cell (p := ⟨b2, _, none⟩) HBL2.out id).trans c5⟩
                | exact ⟨(HN2'.out.cell (p := ⟨b2, _, none⟩) HBL2.out HBS.out).trans c0, (HN2'.out.cell (p := ⟨b2, _, none⟩) HBL2.out HBS.out).trans c1, (HN2'.out.cell (p := ⟨b2, _, none⟩) HBL2.out HBS.out).trans c2', (HN2'.out.cell (p := ⟨b2, _, none⟩) HBL2.out HBS.out).trans c3, (HN2'.out.cell (p := ⟨b2, _, none⟩) HBL2.out HBS.out).trans c4, (HN2'.out.cell (p := ⟨b2, _, none⟩) HBL2.out HBS.out).trans c5⟩)
              (first
                | (go_at_call 24; refine (HCALL.out _).mono ?_; rintro e x1 ⟨rfl, hm⟩; have HN1 := hid_ (((Mod.refl Nothing _).drew).trans hm (fun _ _ h => h) : Mod Nothing wr x1); clear hm)
                | (go_at_call 23; refine (writeS (HD.out.mod HN1.out) (HUP.out.mod HN1.out) sector T HQ.out).mono ?_; rw [HW.out]; rintro e x2 ⟨rfl, hd, hm⟩; have HD2 := hid_ hd; have HN2' := hid_ (HN1.out.trans2 hm); clear hd hm))
            go_wp2_with fail
            go_roundw
            case rel => exact ⟨k + 1, by omega, by go_num, by rw [HPK.out, ← HDN.out], by rw [HPK.out, ← HDN.out]; exact hdn, by rw [HPK.out]; exact HD2.out, HM.out.trans HN2'.out (fun _ _ h => h)⟩
            case measure => simp [intOf]; omega
        · have hend : (pushes s l2).take K = pushes s (l2.take k) := by
            rcases Nat.lt_or_ge k n2 with h | h
            · exact pushes_first (by rw [← HDN.out]; omega)
            · have h3 : l2.take k = l2 := List.take_of_length_le (by rw [HN2.out]; exact h)
              have h4 := HDN.out
              rw [h3] at h4 ⊢
              exact List.take_of_length_le (by omega)
          obtain ⟨U, hU⟩ : ∃ U, U = V.more (pushes s (l2.take k)) := ⟨_, rfl⟩
          rw [← hU] at HD
          have HUO := hid_ (show U.off = false by rw [hU]; exact HVO.out)
          have HUN := hid_ (show U.n = s by rw [hU]; exact HVN.out)
          have HUE := hid_ (show U = (synced s l).more ((pushes s l2).take K) by rw [hU, hend, HVE.out])
          clear hU hend
          have hsp : ¬ (k < n2) ∨ (k < n2 ∧ ¬ dn < K) := by omega
          rcases hsp with h1 | ⟨h1, h2⟩
          · skip
            go_wp2_with fail
            refine (contentsE s (fun _ _ => contentsS HD.out HUO.out) HUN.out).mono ?_
            rintro e w5 ⟨va, rfl, hst, hm⟩
            have HM5 := hid_ (HM.out.trans hm (fun _ _ => False.elim))
            have HDka := hid_ (HD.out.mod hm)
            have STa := hid_ (hst)
            have HNa := hid_ (hm)
            clear hm
            clear hst
            go_wp2_with fail
            go_returns
            refine ⟨va, rfl, ?_, HM5.out.mono (fun i hi h => absurd hi (Nat.not_lt.2 h))⟩
            rw [← HUE.out]
            exact STa.out.lower HM.out.size
          · skip
            go_wp2_with fail
            refine (contentsE s (fun _ _ => contentsS HD.out HUO.out) HUN.out).mono ?_
            rintro e w6 ⟨va, rfl, hst, hm⟩
            have HM6 := hid_ (HM.out.trans hm (fun _ _ => False.elim))
            have HDka := hid_ (HD.out.mod hm)
            have STa := hid_ (hst)
            have HNa := hid_ (hm)
            clear hm
            clear hst
            go_wp2_with fail
            go_returns
            refine ⟨va, rfl, ?_, HM6.out.mono (fun i hi h => absurd hi (Nat.not_lt.2 h))⟩
            rw [← HUE.out]
            exact STa.out.lower HM.out.size

end Go.Proofs.Ytbioeeccbcaljaa
