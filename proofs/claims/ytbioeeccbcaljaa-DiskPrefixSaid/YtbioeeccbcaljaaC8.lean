/- DiskStable: the walk. -/
import Derived.Test.YtbioeeccbcaljaaC7
set_option linter.unusedVariables false
set_option linter.unusedSimpArgs false
namespace Go.Proofs.Ytbioeeccbcaljaa
open Go.RowKit
theorem Try.info4 : (Try.prog.info? 4).map (fun i => (i.zero, i.size, i.bytes)) = some (some (.bool false), 1, 1) := by kernel_rfl
theorem Mod.trans2 {S : Nat → Prop} {w w' w'' : World} (h : Mod Nothing w w') (k : Mod S w' w'') : Mod S w w'' := (h.mono (S' := S) (fun _ _ => False.elim)).trans k (fun _ _ h => h)
theorem Mod.setOneR {w w' : World} (h : Mod Nothing w w') {p : Addr} (u : Value) : Mod (fun k => k = p.block) w (w'.setCell p u) :=
  (Mod.mono (S' := fun k => k = p.block) h (fun _ _ => False.elim)).setCell (fun _ => rfl) u
theorem DiskS.farR {S T : Nat → Prop} {w w' : World} {d : Nat} {A : DK} (h : DiskS w d S A) (hm : Mod T w w') (hT : ∀ k, S k → ¬ T k) : DiskS w' d S A := by
  obtain ⟨F, hd, hD, hF⟩ := h
  exact ⟨F, hd, hD.mod hm (fun k hk => hT k (hF k hk)), hF⟩
set_option maxRecDepth 100000 in
set_option maxHeartbeats 1000000 in
theorem stable_walk (w : World) (r : Nat) (hr : r < 256) (A : Option Addr) (c n : Nat) (l : List Ac) (hn : l.length = n) (hm : n ≤ 9223372036854775807) (hl : ActsAt w w.heap.size A l) (hwf : ∀ a ∈ l, Ac.Wf a) (A2 : Option Addr) (c2 n2 : Nat) (l2 : List Ac) (hn2 : l2.length = n2) (hm2 : n2 ≤ 9223372036854775807) (hl2 : ActsAt w w.heap.size A2 l2) (hwf2 : ∀ a ∈ l2, Ac.Wf a) (i3 : Int) (hi3 : (Lit.int .i64 i3).wf = true) (i4 : Int) (hi4 : (Lit.int .i64 i4).wf = true) :
    Calls Try.prog 4 #[.int .u8 (r : Int), .slice A n c, .slice A2 n2 c2, .int .i64 i3, .int .i64 i4] w fun e w' => e = .returned (.bool true) ∧ Below w.heap.size w w' := by
  have HL := hid_ hl
  have HN := hid_ hn
  have HW := hid_ hwf
  clear hl hn hwf
  have HL2 := hid_ hl2
  have HN2 := hid_ hn2
  have HW2 := hid_ hwf2
  clear hl2 hn2 hwf2
  go_enter Try.func4, Try.ntmps4
  obtain ⟨w0, hw0⟩ : ∃ w0, w0 = w := ⟨_, rfl⟩
  have HL := hid_ (show ActsAt w0 w0.heap.size A l by rw [hw0]; exact HL.out)
  have HL2 := hid_ (show ActsAt w0 w0.heap.size A2 l2 by rw [hw0]; exact HL2.out)
  rw [← hw0]
  clear hw0
  have BEL := hid_ (fun (w' : World) (hm : Mod (From w0.heap.size) w0 w') => (hm.below (Nat.le_refl _) (fun i hi h => absurd h (Nat.not_le.2 hi)) : Below w0.heap.size w0 w'))
  have HM0 := hid_ (Mod.refl (From w0.heap.size) w0)
  go_wp2_with fail
  refine (head_any _).mono ?_
  rintro e w1 ⟨rfl, hm⟩
  have HM1 := hid_ (HM0.out.trans hm (fun _ _ => False.elim))
  clear hm
  cases hok : okB l with
  | false =>
    go_wp2_with fail
    refine (ok_any w1 w0.heap.size A l c n HN.out (HL.out.keep (fun k hk => HM1.out.block k hk (Nat.not_le.2 hk))) hm).mono ?_
    rw [hok]
    rintro e w' ⟨rfl, hw'⟩
    obtain rfl := hw'.symm
    clear hok
    go_wp2_with fail
    go_returns
    exact ⟨rfl, BEL.out _ HM1.out⟩
  | true =>
    go_wp2_with fail
    refine (ok_any w1 w0.heap.size A l c n HN.out (HL.out.keep (fun k hk => HM1.out.block k hk (Nat.not_le.2 hk))) hm).mono ?_
    rw [hok]
    rintro e w' ⟨rfl, hw'⟩
    obtain rfl := hw'.symm
    have HOK := hid_ hok
    clear hok
    cases hok : okB l2 with
    | false =>
      go_wp2_with fail
      refine (ok_any w1 w0.heap.size A2 l2 c2 n2 HN2.out (HL2.out.keep (fun k hk => HM1.out.block k hk (Nat.not_le.2 hk))) hm2).mono ?_
      rw [hok]
      rintro e w' ⟨rfl, hw'⟩
      obtain rfl := hw'.symm
      clear hok
      go_wp2_with fail
      go_returns
      exact ⟨rfl, BEL.out _ HM1.out⟩
    | true =>
      go_wp2_with fail
      refine (ok_any w1 w0.heap.size A2 l2 c2 n2 HN2.out (HL2.out.keep (fun k hk => HM1.out.block k hk (Nat.not_le.2 hk))) hm2).mono ?_
      rw [hok]
      rintro e w' ⟨rfl, hw'⟩
      obtain rfl := hw'.symm
      have HOK2 := hid_ hok
      clear hok
      go_wp2_with fail
      refine (size_any r _ hr).mono ?_
      rintro e w' ⟨rfl, hw'⟩
      obtain rfl := hw'.symm
      have hs1 : 1 ≤ secs r := by unfold secs; omega
      have hs2 : secs r ≤ 12 := by unfold secs; omega
      rw [show 1 + r % 12 = secs r from rfl]
      obtain ⟨s, hs⟩ : ∃ s, s = secs r := ⟨_, rfl⟩
      rw [← hs] at hs1 hs2 ⊢
      clear hs
      go_wp2_with fail
      refine (newS (S := From w0.heap.size) s _ hs1 (by omega) (fun k hk => Nat.le_trans HM1.out.size hk)).mono ?_
      rintro e w2 ⟨d, rfl, hd, hm⟩
      have HD2 := hid_ hd
      have HM2 := hid_ (HM1.out.trans hm (fun _ _ => False.elim))
      clear hd hm
      go_wp2_with fail
      go_loopw [14] (fun v wr => ∃ k : Nat, k ≤ n ∧ v = .int .i64 k ∧ DiskS wr d (From w0.heap.size) ((DK.new s).acts (l.take k)) ∧ Mod (From w0.heap.size) w0 wr) (fun v _ => n - (intOf v).toNat)
      case atStart => exact ⟨0, Nat.zero_le _, rfl, HD2.out, HM2.out⟩
      case round =>
        obtain ⟨k, hk, rfl, hdk, hmod⟩ := hrel
        have HD := hid_ hdk
        have HM := hid_ hmod
        clear hdk hmod
        by_cases hlt : k < n
        · obtain ⟨a, ha⟩ : ∃ a, l[k]? = some a := ⟨_, List.getElem?_eq_getElem (by rw [HN.out]; exact hlt)⟩
          have hal : a ∈ l := List.mem_of_getElem? ha
          have HTX := hid_ (okB_text HOK.out hal)
          have HWA := hid_ (HW.out a hal).after
          have hq : ((DK.new s).acts (l.take k)).q.length < 1000000 := by
            have h1 := DK.acts_q (l.take k) (DK.new s)
            have h2 := okB_len HOK.out
            rw [List.length_take] at h1
            have h3 : (DK.new s).q.length = 0 := rfl
            omega
          have HQ := hid_ hq
          obtain ⟨b, off, hA, hb, c0, c1, c2, c3, c4, c5⟩ := (HL.out.keep (fun k hk => HM.out.block k hk (Nat.not_le.2 hk))).six ha
          have HA := hid_ ha
          subst hA
          clear ha hal hq
          go_wp2_with fail
          refine (doS HD.out (fun k hk => Nat.le_trans HM.out.size hk) a HTX.out HWA.out HQ.out).mono ?_
          rintro e w' ⟨rfl, hd', hm'⟩
          have HD' := hid_ hd'
          have HM' := hid_ (HM.out.trans hm' (fun _ _ h => h))
          clear hd' hm' c0 c1 c2 c3 c4 c5
          go_wp2
          go_roundw
          case rel => exact ⟨k + 1, by omega, by go_num, by rw [DK.acts_snoc _ _ _ _ HA.out]; exact HD'.out, HM'.out⟩
          case measure => simp [intOf]; omega
        · have hkn : k = n := by omega
          subst hkn
          have htk : l.take k = l := List.take_of_length_le (by rw [HN.out]; exact Nat.le_refl _)
          rw [htk] at HD
          clear htk hk hlt
          obtain ⟨X, hX⟩ : ∃ X, X = (DK.new s).acts l := ⟨_, rfl⟩
          rw [← hX] at HD
          have hqX : X.q.length ≤ 60 := by
            have h1 := DK.acts_q l (DK.new s)
            have h2 := okB_len HOK.out
            have h3 : (DK.new s).q.length = 0 := rfl
            rw [hX]; omega
          have hnX : X.n = s := by rw [hX, DK.acts_n]; rfl
          have HQX := hid_ hqX
          have HNX := hid_ hnX
          clear hX hnX hqX
          obtain ⟨w3, hw3⟩ : ∃ w3, w3 = wr := ⟨_, rfl⟩
          rw [← hw3] at HD HM ⊢
          clear hw3
          go_wp2_with fail
          refine (startS HD.out (fun k hk => Nat.le_trans HM.out.size hk)).mono ?_
          rintro e w4 ⟨rfl, hd, hm⟩
          have HD4 := hid_ hd
          have HM4 := hid_ (HM.out.trans hm (fun _ _ h => h))
          clear hd hm
          obtain ⟨Y, hY⟩ : ∃ Y, Y = X.start := ⟨_, rfl⟩
          rw [← hY] at HD4
          have HID0 := hid_ (show Y.Idle by rw [hY]; exact X.start_idle)
          have HYN := hid_ (show Y.n = s by rw [hY]; exact HNX.out)
          clear hY
          have HSY := hid_ HID0.out.sync
          go_wp2_with fail
          refine (syncS HD4.out (fun k hk => Nat.le_trans HM4.out.size hk)).mono ?_
          rw [HSY.out]
          rintro e w5 ⟨rfl, hd, hm⟩
          have HD5 := hid_ hd
          have HM5 := hid_ (HM4.out.trans hm (fun _ _ h => h))
          clear hd hm
          obtain ⟨V, hV⟩ : ∃ V : DK, V = { Y with st := settleL Y.st Y.q, q := [] } := ⟨_, rfl⟩
          rw [← hV] at HD5
          have HID := hid_ (show V.Idle by rw [hV]; exact HID0.out.synced)
          have HVO := hid_ HID.out.on
          have HVN := hid_ (show V.n = s by rw [hV]; exact HYN.out)
          have HVQ := hid_ (show V.q = [] by rw [hV])
          have HFEW := hid_ (DK.texts_few (A := V) (by rw [HVN.out]; omega))
          clear hV
          go_wp2_with fail
          refine (contentsE s (fun _ _ => contentsS HD5.out HVO.out) HVN.out).mono ?_
          rintro e w6 ⟨va, rfl, hst, hm⟩
          have HM6 := hid_ (HM5.out.trans hm (fun _ _ => False.elim))
          have HDka := hid_ (HD5.out.mod hm)
          have STa := hid_ (hst)
          have HNa := hid_ (hm)
          clear hm
          clear hst
          have HDA := hid_ (HD5.out.beside HNa.out (g := va.ownBlock) (fun k hk => (strs_low STa.out hk).1))
          have HVOK := hid_ HDA.out.ok
          obtain ⟨mk, hmk⟩ : ∃ mk, mk = marks s [] := ⟨_, rfl⟩
          have hmake : (Instr.makeSlice 42 (.int .i64 (s : Int)) (.int .i64 (s : Int))).run Try.prog w6 = .ok (.slice (some ⟨w6.heap.size, 0, none⟩) s s) (w6.alloc (.cells mk.toArray 4)) := by
            have h := run_make_row' (P := Try.prog) 42 4 (.bool false) 1 Try.underlying42 Try.info4 rfl .i64 .i64 s (by omega) (by omega) w6
            have e : madeCells #[Value.bool false] s = mk.toArray := by
              rw [hmk, marks_nil, ← toList_madeCells_one]
            rw [e] at h
            simpa using h
          have HMK := hid_ hmk
          clear hmk
          obtain ⟨gw, hgw⟩ : ∃ gw, gw = w6.heap.size := ⟨_, rfl⟩
          have HB0 := hid_ (show Bk (w6.alloc (.cells mk.toArray 4)) gw 4 (marks s (pushes s (l2.take 0))) by rw [hgw, show marks s (pushes s (l2.take 0)) = mk from HMK.out.symm]; exact Bk.new _ _ _)
          have HDW := hid_ (show DiskS (w6.alloc (.cells mk.toArray 4)) d _ (V.more (pushes s (l2.take 0))) by
            have h := HDA.out.beside ((Mod.refl Nothing _).alloc (.cells mk.toArray 4)) (g := some gw) (fun k hk => by rw [← hgw]; injection hk with hk; exact Nat.le_of_eq hk)
            rw [show V.more (pushes s (l2.take 0)) = V from V.more_nil]
            exact h)
          have STa1 := hid_ (strs_mod STa.out ((Mod.refl Nothing _).alloc (.cells mk.toArray 4)) (fun _ _ => id))
          have HMg := hid_ (HM6.out.alloc (.cells mk.toArray 4))
          have HGS := hid_ (show w6.heap.size ≤ gw from Nat.le_of_eq hgw.symm)
          go_wp2_with fail
          obtain ⟨wm, hwm⟩ : ∃ wm, wm = w6.alloc (.cells mk.toArray 4) := ⟨_, rfl⟩
          rw [← hwm] at HB0 HDW STa1 HMg ⊢
          rw [← hgw]
          clear hwm hgw hmake
          go_loopw [18] (fun v wr => ∃ k : Nat, k ≤ n2 ∧ v = .int .i64 k ∧ DiskS wr d (fun k => (From w0.heap.size k ∧ va.ownBlock ≠ some k) ∧ some gw ≠ some k) (V.more (pushes s (l2.take k))) ∧ StrsAt wr w5.heap.size va V.texts ∧ Bk wr gw 4 (marks s (pushes s (l2.take k))) ∧ Mod (From w0.heap.size) w0 wr) (fun v _ => n2 - (intOf v).toNat)
          case atStart => exact ⟨0, Nat.zero_le _, rfl, HDW.out, STa1.out, HB0.out, HMg.out⟩
          case round =>
            obtain ⟨k, hk, rfl, hdk, hsta, hbk, hmod⟩ := hrel
            have HD := hid_ hdk
            have HST := hid_ hsta
            have HB := hid_ hbk
            have HM := hid_ hmod
            clear hdk hmod hsta hbk
            by_cases hlt : k < n2
            · obtain ⟨a, ha⟩ : ∃ a, l2[k]? = some a := ⟨_, List.getElem?_eq_getElem (by rw [HN2.out]; exact hlt)⟩
              have hal : a ∈ l2 := List.mem_of_getElem? ha
              have HTX := hid_ (okB_text HOK2.out hal)
              have HPK := hid_ (pushes_snoc s l2 k a ha)
              have hq : (V.more (pushes s (l2.take k))).q.length < 1000000 := by
                have h1 := pushes_len s (l2.take k)
                have h2 := okB_len HOK2.out
                rw [List.length_take] at h1
                simp [DK.more, HVQ.out]
                omega
              have HQ := hid_ hq
              obtain ⟨P, hP⟩ : ∃ P, P = pushes s (l2.take k) := ⟨_, rfl⟩
              rw [← hP] at HD HB HPK HQ
              obtain ⟨b2, off2, hA, hb, c0, c1, c2', c3, c4, c5⟩ := (HL2.out.keep (fun k hk => HM.out.block k hk (Nat.not_le.2 hk))).six ha
              subst hA
              clear ha hal hq hP
              have HUP := hid_ (show Up (fun k => (From w0.heap.size k ∧ va.ownBlock ≠ some k) ∧ some gw ≠ some k) wr from fun k hk => ⟨⟨Nat.le_trans HM.out.size hk, fun e => by have h1 := (strs_low HST.out e).2; omega⟩, fun e => by injection e with e; have h1 := HB.out.lt; omega⟩)
              have HBL2 := hid_ (show b2 < wr.heap.size from Nat.lt_of_lt_of_le hb HM.out.size)
              have HBS := hid_ (show ¬ ((fun k => (From w0.heap.size k ∧ va.ownBlock ≠ some k) ∧ some gw ≠ some k) b2) from fun h => absurd hb (Nat.not_lt.2 h.1.1))
              clear hb
              have HWR := hid_ (DK.more_write HID.out P a)
              obtain ⟨T, hT⟩ : ∃ T, T = a.txt := ⟨_, rfl⟩
              have HCALL := hid_ (fun w => show Calls Try.prog 24 #[a.val] w (TextPost T w) by rw [hT]; exact text_any a w HTX.out)
              by_cases hv : goodW s a
              · have hwr : (V.more P).write a.sector a.txt = (0, V.more (P ++ [(a.sector.toNat, a.txt)])) := by rw [HWR.out, if_pos (by rw [HVN.out]; exact hv)]
                rw [if_pos hv] at HPK
                obtain ⟨v1, v2, -⟩ := hv
                obtain ⟨q, hqe⟩ := Int.eq_ofNat_of_zero_le v1
                rw [← hT] at hwr HPK
                clear hT HWR HTX
                obtain ⟨kind, sector, bytes, text, odd, after⟩ := a
                simp only at hqe v1 v2 hwr c0 c1 c2' c3 c4 c5 HPK
                subst hqe
                simp only [Int.toNat_natCast] at hwr HPK
                have HW := hid_ hwr
                clear hwr
                have hqs : q < s := by omega
                go_wp2_with fail
                go_region_held3 (fun w' => w'.cell? ⟨b2, off2 + k * 6, none⟩ = some (.int .i64 kind) ∧ w'.cell? ⟨b2, off2 + k * 6 + 1, none⟩ = some (.int .i64 q) ∧ w'.cell? ⟨b2, off2 + k * 6 + 2, none⟩ = some (.int .i64 bytes) ∧ w'.cell? ⟨b2, off2 + k * 6 + 3, none⟩ = some (.string text) ∧ w'.cell? ⟨b2, off2 + k * 6 + 4, none⟩ = some (.bool odd) ∧ w'.cell? ⟨b2, off2 + k * 6 + 5, none⟩ = some (.int .i64 after))
                  (first
                    | exact ⟨c0, c1, c2', c3, c4, c5⟩
                    | exact ⟨(HN1.out.cell (p := ⟨b2, _, none⟩) HBL2.out id).trans c0, (HN1.out.cell (p := ⟨b2, _, none⟩) HBL2.out id).trans c1, (HN1.out.cell (p := ⟨b2, _, none⟩) HBL2.out id).trans c2', (HN1.out.cell (p := ⟨b2, _, none⟩) HBL2.out id).trans c3, (HN1.out.cell (p := ⟨b2, _, none⟩) HBL2.out id).trans c4, (HN1.out.cell (p := ⟨b2, _, none⟩) HBL2.out id).trans c5⟩
                    | exact ⟨(HN2'.out.cell (p := ⟨b2, _, none⟩) HBL2.out HBS.out).trans c0, (HN2'.out.cell (p := ⟨b2, _, none⟩) HBL2.out HBS.out).trans c1, (HN2'.out.cell (p := ⟨b2, _, none⟩) HBL2.out HBS.out).trans c2', (HN2'.out.cell (p := ⟨b2, _, none⟩) HBL2.out HBS.out).trans c3, (HN2'.out.cell (p := ⟨b2, _, none⟩) HBL2.out HBS.out).trans c4, (HN2'.out.cell (p := ⟨b2, _, none⟩) HBL2.out HBS.out).trans c5⟩)
                  (first
                    | (go_at_call 24; refine (HCALL.out _).mono ?_; rintro e x1 ⟨rfl, hm⟩; have HN1 := hid_ (((Mod.refl Nothing _).drew).trans hm (fun _ _ h => h) : Mod Nothing wr x1); clear hm)
                    | (go_at_call 23; refine (writeS (HD.out.mod HN1.out) (HUP.out.mod HN1.out) (q : Int) T HQ.out).mono ?_; rw [HW.out]; rintro e x2 ⟨rfl, hd, hm⟩; have HD2 := hid_ hd; have HN2' := hid_ (HN1.out.trans2 hm); clear hd hm))
                have HB2 := hid_ (HN2'.out.bk HB.out (fun h => h.2 rfl))
                have cw : x2.cell? ⟨gw, q, none⟩ = some (.bool (decide (∃ p ∈ P, p.1 = q))) := by rw [HB2.out.cell q]; simp [marks, hqs]
                have fw := HB2.out.frozen q
                go_wp2_with fail
                have HS1 := hid_ (((Mod.refl Nothing x2).setOneR (p := ⟨gw, q, none⟩) (.bool true)) : Mod (fun k => k = gw) x2 (x2.setCell ⟨gw, q, none⟩ (.bool true)))
                have HPE := HPK
                refine ⟨⟨k + 1, by omega, by go_num, ?_, ?_, ?_, ?_⟩, by simp [intOf]; omega⟩
                · rw [HPE]
                  exact HD2.out.farR HS1.out (fun k hk e => hk.2 (by rw [e]))
                · exact strs_mod (strs_mod HST.out HN2'.out (fun k hk h => h.1.2 hk)) HS1.out (fun k hk e => by have e : k = gw := e; have h1 := (strs_low STa.out hk).2; have h2 := HGS.out; omega)
                · rw [HPE, marks_push]
                  exact HB2.out.set q (.bool true)
                · exact (HM.out.trans HN2'.out (fun _ _ h => h.1.1)).setCell (fun _ => Nat.le_trans HM6.out.size HGS.out) _
              · have hwr : (V.more P).write a.sector a.txt = (1, V.more P) := by rw [HWR.out, if_neg (by rw [HVN.out]; exact hv)]
                rw [if_neg hv, List.append_nil] at HPK
                rw [← hT] at hwr
                clear hT HWR HTX hv
                obtain ⟨kind, sector, bytes, text, odd, after⟩ := a
                simp only at hwr c0 c1 c2' c3 c4 c5
                have HW := hid_ hwr
                clear hwr
                go_wp2_with fail
                go_region_held3 (fun w' => w'.cell? ⟨b2, off2 + k * 6, none⟩ = some (.int .i64 kind) ∧ w'.cell? ⟨b2, off2 + k * 6 + 1, none⟩ = some (.int .i64 sector) ∧ w'.cell? ⟨b2, off2 + k * 6 + 2, none⟩ = some (.int .i64 bytes) ∧ w'.cell? ⟨b2, off2 + k * 6 + 3, none⟩ = some (.string text) ∧ w'.cell? ⟨b2, off2 + k * 6 + 4, none⟩ = some (.bool odd) ∧ w'.cell? ⟨b2, off2 + k * 6 + 5, none⟩ = some (.int .i64 after))
                  (first
                    | exact ⟨c0, c1, c2', c3, c4, c5⟩
                    | exact ⟨(HN1.out.cell (p := ⟨b2, _, none⟩) HBL2.out id).trans c0, (HN1.out.cell (p := ⟨b2, _, none⟩) HBL2.out id).trans c1, (HN1.out.cell (p := ⟨b2, _, none⟩) HBL2.out id).trans c2', (HN1.out.cell (p := ⟨b2, _, none⟩) HBL2.out id).trans c3, (HN1.out.cell (p := ⟨b2, _, none⟩) HBL2.out id).trans c4, (HN1.out.cell (p := ⟨b2, _, none⟩) HBL2.out id).trans c5⟩
                    | exact ⟨(HN2'.out.cell (p := ⟨b2, _, none⟩) HBL2.out HBS.out).trans c0, (HN2'.out.cell (p := ⟨b2, _, none⟩) HBL2.out HBS.out).trans c1, (HN2'.out.cell (p := ⟨b2, _, none⟩) HBL2.out HBS.out).trans c2', (HN2'.out.cell (p := ⟨b2, _, none⟩) HBL2.out HBS.out).trans c3, (HN2'.out.cell (p := ⟨b2, _, none⟩) HBL2.out HBS.out).trans c4, (HN2'.out.cell (p := ⟨b2, _, none⟩) HBL2.out HBS.out).trans c5⟩)
                  (first
                    | (go_at_call 24; refine (HCALL.out _).mono ?_; rintro e x1 ⟨rfl, hm⟩; have HN1 := hid_ (((Mod.refl Nothing _).drew).trans hm (fun _ _ h => h) : Mod Nothing wr x1); clear hm)
                    | (go_at_call 23; refine (writeS (HD.out.mod HN1.out) (HUP.out.mod HN1.out) sector T HQ.out).mono ?_; rw [HW.out]; rintro e x2 ⟨rfl, hd, hm⟩; have HD2 := hid_ hd; have HN2' := hid_ (HN1.out.trans2 hm); clear hd hm))
                go_wp2_with fail
                have HPE := HPK
                refine ⟨⟨k + 1, by omega, by go_num, ?_, ?_, ?_, ?_⟩, by simp [intOf]; omega⟩
                · rw [HPE]
                  exact HD2.out
                · exact strs_mod HST.out HN2'.out (fun k hk h => h.1.2 hk)
                · rw [HPE]
                  exact HN2'.out.bk HB.out (fun h => h.2 rfl)
                · exact HM.out.trans HN2'.out (fun _ _ h => h.1.1)
            · have hkn : k = n2 := by omega
              subst hkn
              have htk : l2.take k = l2 := List.take_of_length_le (by rw [HN2.out]; exact Nat.le_refl _)
              rw [htk] at HD HB
              clear htk hk hlt
              obtain ⟨P, hP⟩ : ∃ P, P = pushes s l2 := ⟨_, rfl⟩
              rw [← hP] at HD HB
              have HPO := hid_ (show QOk s P by rw [hP]; exact pushes_ok s l2)
              clear hP
              have HUP := hid_ (show Up (fun k => (From w0.heap.size k ∧ va.ownBlock ≠ some k) ∧ some gw ≠ some k) wr from fun k hk => ⟨⟨Nat.le_trans HM.out.size hk, fun e => by have h1 := (strs_low HST.out e).2; omega⟩, fun e => by injection e with e; have h1 := HB.out.lt; omega⟩)
              go_wp2_with fail
              refine (failS HD.out HUP.out i3 i4).mono ?_
              rintro e w7 ⟨rfl, hd, hm⟩
              have HD7 := hid_ hd
              have HNf := hid_ (hm)
              have HM7 := hid_ (HM.out.trans hm (fun _ _ h => h.1.1))
              clear hd hm
              go_wp2_with fail
              refine (startS HD7.out (HUP.out.mod HNf.out)).mono ?_
              rintro e w8 ⟨rfl, hd, hm⟩
              have HD8 := hid_ hd
              have HNg := hid_ (hm)
              have HM8 := hid_ (HM7.out.trans hm (fun _ _ h => h.1.1))
              clear hd hm
              obtain ⟨Z, hZ⟩ : ∃ Z, Z = ((V.more P).cut i3 i4).start := ⟨_, rfl⟩
              rw [← hZ] at HD8
              have HZ := hid_ hZ
              have HZO := hid_ (show Z.off = false by rw [hZ]; rfl)
              have HZN := hid_ (show Z.n = s by rw [hZ]; show ((V.more P).cut i3 i4).n = s; rw [DK.cut_n]; exact HVN.out)
              have HFEZ := hid_ (DK.texts_few (A := Z) (by rw [HZN.out]; omega))
              clear hZ
              have HST2 := hid_ (strs_mod (strs_mod HST.out HNf.out (fun k hk h => h.1.2 hk)) HNg.out (fun k hk h => h.1.2 hk))
              have HBf := hid_ (HNg.out.bk (HNf.out.bk HB.out (fun h => h.2 rfl)) (fun h => h.2 rfl))
              go_wp2_with fail
              refine (contentsE s (fun _ _ => contentsS HD8.out HZO.out) HZN.out).mono ?_
              rintro e w9 ⟨vb, rfl, hst, hm⟩
              have HM9 := hid_ (HM8.out.trans hm (fun _ _ => False.elim))
              have HDkb := hid_ (HD8.out.mod hm)
              have STb := hid_ (hst)
              have HNb := hid_ (hm)
              have HST3 := hid_ (strs_mod HST2.out hm (fun _ _ => id))
              have HBg := hid_ (hm.bk HBf.out id)
              clear hm
              clear hst
              obtain ⟨ga, ca, hva, hgb, hgs, cella, -, -⟩ := HST3.out.slice (by simp [DK.texts, HVN.out]; omega)
              obtain ⟨gb, cb, hvb, hgb2, hgs2, cellb, -, -⟩ := STb.out.slice (by simp [DK.texts, HZN.out]; omega)
              have hlenV : V.texts.length = s := by simp [DK.texts, HVN.out]
              have hlenZ : Z.texts.length = s := by simp [DK.texts, HZN.out]
              rw [hlenV] at hva
              rw [hlenZ] at hvb
              subst hva
              subst hvb
              have CA := hid_ cella
              have CB := hid_ cellb
              clear cella cellb hgb hgb2 hlenV hlenZ
              go_wp2_with fail
              go_loopw [22] (fun i wr => ∃ k nq : Nat, k ≤ s ∧ i = .int .i64 k ∧ wr = (w9).drewN nq) (fun i _ => s - (intOf i).toNat)
              case atStart => exact ⟨0, 0, Nat.zero_le _, rfl, rfl⟩
              case round =>
                obtain ⟨k, nq, hk, rfl, rfl⟩ := hrel
                by_cases hlt : k < s
                · have q1 : (0 : Int) ≤ k := by omega
                  have q2 : (k : Int) < s := by omega
                  have cW : (w9).cell? ⟨gw, k, none⟩ = some (.bool (decide (∃ p ∈ P, p.1 = k))) := by rw [HBg.out.cell k]; simp [marks, hlt]
                  by_cases hm : ∃ p ∈ P, p.1 = k
                  · rw [decide_eq_true hm] at cW
                    clear hm
                    go_wp2_with fail
                    go_quiet (fail)
                    go_wp2
                    go_roundw
                    case rel => exact ⟨k + 1, _, by omega, by go_num, rfl⟩
                    case measure => simp [intOf]; omega
                  · rw [decide_eq_false hm] at cW
                    have hkeep : Z.textAt k = V.textAt k := by
                      rw [HZ.out]
                      exact DK.cut_kept HID.out HVQ.out HVOK.out.len (by rw [HVN.out]; exact HPO.out) i3 i4 (by rw [HVN.out]; exact hlt) (fun p hp e => hm ⟨p, hp, e⟩)
                    clear hm
                    have cA : (w9).cell? ⟨ga, k, none⟩ = some (.string (V.textAt k)) := CA.out k _ (by simp [DK.texts, HVN.out, hlt])
                    have cB : (w9).cell? ⟨gb, k, none⟩ = some (.string (Z.textAt k)) := CB.out k _ (by simp [DK.texts, HZN.out, hlt])
                    rw [hkeep] at cB
                    clear hkeep
                    obtain ⟨T, hT⟩ : ∃ T, T = V.textAt k := ⟨_, rfl⟩
                    rw [← hT] at cA cB
                    clear hT
                    have hb := ba_beq T T
                    rw [decide_eq_true rfl] at hb
                    go_wp2_with fail
                    go_quiet (fail)
                    clear hb
                    go_wp2
                    go_roundw
                    case rel => exact ⟨k + 1, _, by omega, by go_num, rfl⟩
                    case measure => simp [intOf]; omega
                · have hks : k = s := by omega
                  subst hks
                  go_wp2_with fail
                  go_returns
                  exact ⟨rfl, BEL.out _ (HM9.out.drewN _)⟩

end Go.Proofs.Ytbioeeccbcaljaa
