/- DiskRaw: the walk. -/
import Derived.Test.YtbioeeccbcaljaaC3
set_option linter.unusedVariables false
set_option linter.unusedSimpArgs false
namespace Go.Proofs.Ytbioeeccbcaljaa
open Go.RowKit

set_option maxRecDepth 100000 in
set_option maxHeartbeats 1000000 in
theorem raw_walk (w : World) (r : Nat) (hr : r < 256) (A : Option Addr) (c n : Nat) (l : List Ac) (hn : l.length = n) (hm : n ≤ 9223372036854775807) (hl : ActsAt w w.heap.size A l) (hwf : ∀ a ∈ l, Ac.Wf a) (x : Ac) (hx : x.Wf) :
    Calls Try.prog 10 #[.int .u8 (r : Int), .slice A n c, x.val] w fun e w' => e = .returned (.bool true) ∧ Below w.heap.size w w' := by
  have HL := hid_ hl
  have HN := hid_ hn
  have HW := hid_ hwf
  clear hl hn hwf
  go_enter Try.func10, Try.ntmps10
  go_wp2_with fail
  obtain ⟨w0, hw0⟩ : ∃ w0, w0 = w.alloc (Obj.cells #[.int .i64 x.kind, .int .i64 x.sector, .int .i64 x.bytes, .string x.text, .bool x.odd, .int .i64 x.after] 34) := ⟨_, rfl⟩
  have hsz : w.heap.size < w0.heap.size := by rw [hw0]; simp
  have BEL := hid_ (fun (w' : World) (hm : Mod (From w0.heap.size) w0 w') => (((hw0 ▸ (((Mod.refl Nothing w).alloc _)) : Mod Nothing w w0).trans (hm.mono (S' := From w.heap.size) (fun i _ h => Nat.le_trans (Nat.le_of_lt hsz) h)) (fun _ hi h => absurd h (Nat.not_le.2 hi))).below (Nat.le_refl _) (fun _ _ h => h) : Below w.heap.size w w'))
  have HX := hid_ (show Bk w0 w.heap.size 34 x.cells by rw [hw0]; exact Bk.new _ _ _)
  have HXL := hid_ hsz
  have HL := hid_ (show ActsAt w0 w0.heap.size A l by rw [hw0]; exact fun k a hk => let ⟨b, off, h1, h2, h3⟩ := HL.out k a hk; ⟨b, off, h1, by simp; omega, fun j u hu => (World.cell?_alloc_lt _ _ _ h2).trans (h3 j u hu)⟩)
  obtain ⟨gx, hgx⟩ : ∃ gx, gx = w.heap.size := ⟨_, rfl⟩
  rw [← hgx] at HX HXL
  rw [← hw0]
  simp only [← hgx]
  clear hw0 hsz
  have HM0 := hid_ (Mod.refl (From w0.heap.size) w0)
  clear hgx
  go_wp2_with fail
  refine (head_any _).mono ?_
  rintro e w1 ⟨rfl, hm⟩
  have HM1 := hid_ (HM0.out.trans hm (fun _ _ => False.elim))
  clear hm
  cases hok : okB l with
  | false =>
    go_wp2_with fail
    refine (ok_any w1 w0.heap.size A l c n HN.out (HL.out.keep (fun k hk => HM1.out.block k hk (Nat.not_le.2 hk))) hm).mono ?_
    rw [hok]
    rintro e w' ⟨rfl, hw'⟩
    obtain rfl := hw'.symm
    clear hok
    go_wp2_with fail
    go_returns
    exact ⟨rfl, BEL.out _ HM1.out⟩
  | true =>
    go_wp2_with fail
    refine (ok_any w1 w0.heap.size A l c n HN.out (HL.out.keep (fun k hk => HM1.out.block k hk (Nat.not_le.2 hk))) hm).mono ?_
    rw [hok]
    rintro e w' ⟨rfl, hw'⟩
    obtain rfl := hw'.symm
    have HOK := hid_ hok
    clear hok
    have hbx := HM1.out.bk HX.out (Nat.not_le.2 HXL.out)
    have x0 := hbx.cell 0
    have x1 := hbx.cell 1
    have x2 := hbx.cell 2
    have x3 := hbx.cell 3
    have x4 := hbx.cell 4
    have x5 := hbx.cell 5
    have hgl := hbx.lt
    simp only [Ac.cells, List.getElem?_cons_succ, List.getElem?_cons_zero] at x0 x1 x2 x3 x4 x5
    cases hokx : okB [x] with
    | false =>
      go_wp2_with fail
      refine (ok_any (w1.alloc (Obj.cells #[.int .i64 x.kind, .int .i64 x.sector, .int .i64 x.bytes, .string x.text, .bool x.odd, .int .i64 x.after] 34)) (w1.heap.size + 1) (some ⟨w1.heap.size, 0, none⟩) [x] 1 1 rfl (acts_one (Bk.new _ 34 x.cells)) (by decide)).mono ?_
      rw [hokx]
      rintro e w' ⟨rfl, hw'⟩
      obtain rfl := hw'.symm
      clear hokx
      have HM2 := hid_ (HM1.out.alloc (Obj.cells #[.int .i64 x.kind, .int .i64 x.sector, .int .i64 x.bytes, .string x.text, .bool x.odd, .int .i64 x.after] 34))
      go_wp2_with fail
      go_returns
      exact ⟨rfl, BEL.out _ HM2.out⟩
    | true =>
      go_wp2_with fail
      refine (ok_any (w1.alloc (Obj.cells #[.int .i64 x.kind, .int .i64 x.sector, .int .i64 x.bytes, .string x.text, .bool x.odd, .int .i64 x.after] 34)) (w1.heap.size + 1) (some ⟨w1.heap.size, 0, none⟩) [x] 1 1 rfl (acts_one (Bk.new _ 34 x.cells)) (by decide)).mono ?_
      rw [hokx]
      rintro e w' ⟨rfl, hw'⟩
      obtain rfl := hw'.symm
      have hxt : x.text.size ≤ 1000 := okB_text hokx (List.mem_singleton.2 rfl)
      have HXT := hid_ hxt
      have HM2 := hid_ (HM1.out.alloc (Obj.cells #[.int .i64 x.kind, .int .i64 x.sector, .int .i64 x.bytes, .string x.text, .bool x.odd, .int .i64 x.after] 34))
      clear hokx hxt
      clear hbx x0 x1 x2 x3 x4 x5 hgl
      obtain ⟨w2, hw2⟩ : ∃ w2, w2 = (w1.alloc (Obj.cells #[.int .i64 x.kind, .int .i64 x.sector, .int .i64 x.bytes, .string x.text, .bool x.odd, .int .i64 x.after] 34)) := ⟨_, rfl⟩
      rw [← hw2] at HM2 ⊢
      clear hw2
      go_wp2_with fail
      refine (size_any r _ hr).mono ?_
      rintro e w' ⟨rfl, hw'⟩
      obtain rfl := hw'.symm
      have hs1 : 1 ≤ secs r := by unfold secs; omega
      have hs2 : secs r ≤ 12 := by unfold secs; omega
      rw [show 1 + r % 12 = secs r from rfl]
      obtain ⟨s, hs⟩ : ∃ s, s = secs r := ⟨_, rfl⟩
      rw [← hs] at hs1 hs2 ⊢
      clear hs
      go_wp2_with fail
      refine (newS (S := From w0.heap.size) s _ hs1 (by omega) (fun k hk => Nat.le_trans HM2.out.size hk)).mono ?_
      rintro e w3 ⟨d, rfl, hd, hm⟩
      have HD3 := hid_ hd
      have HM3 := hid_ (HM2.out.trans hm (fun _ _ => False.elim))
      clear hd hm
      go_wp2_with fail
      go_loopw [10] (fun v wr => ∃ k : Nat, k ≤ n ∧ v = .int .i64 k ∧ DiskS wr d (From w0.heap.size) ((DK.new s).acts (l.take k)) ∧ Mod (From w0.heap.size) w0 wr) (fun v _ => n - (intOf v).toNat)
      case atStart => exact ⟨0, Nat.zero_le _, rfl, HD3.out, HM3.out⟩
      case round =>
        obtain ⟨k, hk, rfl, hdk, hmod⟩ := hrel
        have HD := hid_ hdk
        have HM := hid_ hmod
        clear hdk hmod
        by_cases hlt : k < n
        · obtain ⟨a, ha⟩ : ∃ a, l[k]? = some a := ⟨_, List.getElem?_eq_getElem (by rw [HN.out]; exact hlt)⟩
          have hal : a ∈ l := List.mem_of_getElem? ha
          have HTX := hid_ (okB_text HOK.out hal)
          have HWA := hid_ (HW.out a hal).after
          have hq : ((DK.new s).acts (l.take k)).q.length < 1000000 := by
            have h1 := DK.acts_q (l.take k) (DK.new s)
            have h2 := okB_len HOK.out
            rw [List.length_take] at h1
            have h3 : (DK.new s).q.length = 0 := rfl
            omega
          have HQ := hid_ hq
          obtain ⟨b, off, hA, hb, c0, c1, c2, c3, c4, c5⟩ := (HL.out.keep (fun k hk => HM.out.block k hk (Nat.not_le.2 hk))).six ha
          have HA := hid_ ha
          subst hA
          clear ha hal hq
          go_wp2_with fail
          refine (doS HD.out (fun k hk => Nat.le_trans HM.out.size hk) a HTX.out HWA.out HQ.out).mono ?_
          rintro e w' ⟨rfl, hd', hm'⟩
          have HD' := hid_ hd'
          have HM' := hid_ (HM.out.trans hm' (fun _ _ h => h))
          clear hd' hm' c0 c1 c2 c3 c4 c5
          go_wp2
          go_roundw
          case rel => exact ⟨k + 1, by omega, by go_num, by rw [DK.acts_snoc _ _ _ _ HA.out]; exact HD'.out, HM'.out⟩
          case measure => simp [intOf]; omega
        · have hkn : k = n := by omega
          subst hkn
          have htk : l.take k = l := List.take_of_length_le (by rw [HN.out]; exact Nat.le_refl _)
          rw [htk] at HD
          clear htk hk hlt
          obtain ⟨X, hX⟩ : ∃ X, X = (DK.new s).acts l := ⟨_, rfl⟩
          rw [← hX] at HD
          have hqX : X.q.length ≤ 60 := by
            have h1 := DK.acts_q l (DK.new s)
            have h2 := okB_len HOK.out
            have h3 : (DK.new s).q.length = 0 := rfl
            rw [hX]; omega
          have hnX : X.n = s := by rw [hX, DK.acts_n]; rfl
          have HQX := hid_ hqX
          have HNX := hid_ hnX
          clear hX hnX hqX
          obtain ⟨w4, hw4⟩ : ∃ w4, w4 = wr := ⟨_, rfl⟩
          rw [← hw4] at HD HM ⊢
          clear hw4
          go_wp2_with fail
          refine (startS HD.out (fun k hk => Nat.le_trans HM.out.size hk)).mono ?_
          rintro e w5 ⟨rfl, hd, hm⟩
          have HD5 := hid_ hd
          have HM5 := hid_ (HM.out.trans hm (fun _ _ h => h))
          clear hd hm
          obtain ⟨Y, hY⟩ : ∃ Y, Y = X.start := ⟨_, rfl⟩
          rw [← hY] at HD5
          have HID := hid_ (show Y.Idle by rw [hY]; exact X.start_idle)
          have HYN := hid_ (show Y.n = s by rw [hY]; exact HNX.out)
          have HYQ := hid_ (show Y.q.length < 1000000 by rw [hY]; have := HQX.out; show X.q.length < 1000000; omega)
          clear hY
          obtain ⟨R, hR⟩ : ∃ R : ByteArray, R = ⟨Y.st.toArray⟩ := ⟨_, rfl⟩
          have HR := hid_ hR
          have HRS := hid_ (show R.size = s * 64 by rw [hR, ← HYN.out, ← HD5.out.ok.len]; rfl)
          clear hR
          go_wp2_with fail
          refine (rawE' HD5.out R HR.out.symm).mono ?_
          rintro e w' ⟨rfl, hw'⟩
          obtain rfl := hw'.symm
          obtain ⟨x0, x1, x2, x3, x4, x5⟩ := xfacts HM5.out HX.out HXL.out
          go_wp2_with fail
          go_region_held3 (fun w' => w'.cell? ⟨gx, 0, none⟩ = some (.int .i64 x.kind) ∧ w'.cell? ⟨gx, 1, none⟩ = some (.int .i64 x.sector) ∧ w'.cell? ⟨gx, 2, none⟩ = some (.int .i64 x.bytes) ∧ w'.cell? ⟨gx, 3, none⟩ = some (.string x.text) ∧ w'.cell? ⟨gx, 4, none⟩ = some (.bool x.odd) ∧ w'.cell? ⟨gx, 5, none⟩ = some (.int .i64 x.after))
            (first
              | exact xfacts HM5.out.drew HX.out HXL.out
              | exact xfacts HM6.out HX.out HXL.out
              | exact xfacts HM7.out HX.out HXL.out)
            (first
              | (go_at_call 24; refine (text_any x _ HXT.out).mono ?_; rintro e w6 ⟨rfl, hm⟩; have HM6 := hid_ (HM5.out.drew.trans hm (fun _ _ => False.elim)); have HN6 := hid_ (((Mod.refl Nothing _).drew).trans hm (fun _ _ h => h) : Mod Nothing w5 w6); clear hm)
              | (go_at_call 23; refine (writeS (HD5.out.mod HN6.out) (fun k hk => Nat.le_trans HM6.out.size hk) x.sector x.txt HYQ.out).mono ?_; rintro e w7 ⟨rfl, hd, hm⟩; have HD7 := hid_ hd; have HM7 := hid_ (HM6.out.trans hm (fun _ _ h => h)); clear hd hm))
          clear x0 x1 x2 x3 x4 x5
          have HZI := hid_ (HID.out.written x.sector x.txt).1
          have HZS := hid_ (HID.out.written x.sector x.txt).2
          have HZN := hid_ (show (Y.write x.sector x.txt).2.n = s by rw [DK.write_n]; exact HYN.out)
          obtain ⟨Z, hZ⟩ : ∃ Z, Z = (Y.write x.sector x.txt).2 := ⟨_, rfl⟩
          rw [← hZ] at HZI HZS HZN HD7
          clear hZ
          obtain ⟨x0, x1, x2, x3, x4, x5⟩ := xfacts HM7.out HX.out HXL.out
          go_wp2_with fail
          refine (readS HD7.out x.sector).mono ?_
          rintro e w8 ⟨rfl, hm⟩
          have HM8 := hid_ (HM7.out.trans hm (fun _ _ => False.elim))
          have HDr := hid_ (HD7.out.mod hm)
          clear hm
          clear x0 x1 x2 x3 x4 x5
          have HR2 := hid_ (show (⟨Z.st.toArray⟩ : ByteArray) = R by rw [HZS.out]; exact HR.out.symm)
          go_wp2_with fail
          refine (rawE' HDr.out R HR2.out).mono ?_
          rintro e w' ⟨rfl, hw'⟩
          obtain rfl := hw'.symm
          have b1 : (R.toList == R.toList) = true := by simp
          have b2 : ((R.size : Int) != (s : Int) * 64) = false := by rw [HRS.out]; push_cast; simp
          cases hodd : x.odd with
          | true =>
            obtain ⟨x0, x1, x2, x3, x4, x5⟩ := xfacts HM8.out HX.out HXL.out
            rw [hodd] at x4
            go_wp2_with fail
            refine (failS HDr.out (fun k hk => Nat.le_trans HM8.out.size hk) 0 0).mono ?_
            rintro e w9 ⟨rfl, hd, hm⟩
            have HD9 := hid_ hd
            have HM9 := hid_ (HM8.out.trans hm (fun _ _ h => h))
            clear hd hm
            clear x0 x1 x2 x3 x4 x5
            have HR3 := hid_ (show (⟨(Z.cut 0 0).st.toArray⟩ : ByteArray) = R by
              rw [← HR2.out]
              have : (Z.cut 0 0).st = Z.st := by
                rw [DK.cut, if_neg (by rw [HZI.out.on]; simp)]
                show tornSt (settleL Z.st (Z.q.take (clampN 0 Z.q.length))) Z.q (clampN 0 Z.q.length) (clampN 0 64) = Z.st
                rw [show clampN 0 Z.q.length = 0 by simp [clampN], show clampN 0 64 = 0 by simp [clampN]]
                unfold tornSt; split <;> simp [settleL]
              rw [this])
            go_wp2_with fail
            refine (rawE' HD9.out R HR3.out).mono ?_
            rintro e w' ⟨rfl, hw'⟩
            obtain rfl := hw'.symm
            go_wp2_with fail
            refine (startS HD9.out (fun k hk => Nat.le_trans HM9.out.size hk)).mono ?_
            rintro e w10 ⟨rfl, hd, hm⟩
            have HD10 := hid_ hd
            have HM10 := hid_ (HM9.out.trans hm (fun _ _ h => h))
            clear hd hm
            have HR4 := hid_ (show (⟨(Z.cut 0 0).start.st.toArray⟩ : ByteArray) = R from HR3.out)
            go_wp2_with fail
            refine (rawE' HD10.out R HR4.out).mono ?_
            rintro e w' ⟨rfl, hw'⟩
            obtain rfl := hw'.symm
            go_wp2_with fail
            go_returns
            exact ⟨rfl, BEL.out _ HM10.out⟩
          | false =>
            obtain ⟨x0, x1, x2, x3, x4, x5⟩ := xfacts HM8.out HX.out HXL.out
            rw [hodd] at x4
            have HSY := hid_ HZI.out.sync
            go_wp2_with fail
            refine (syncS HDr.out (fun k hk => Nat.le_trans HM8.out.size hk)).mono ?_
            rw [HSY.out]
            rintro e w9 ⟨rfl, hd, hm⟩
            have HD9 := hid_ hd
            have HM9 := hid_ (HM8.out.trans hm (fun _ _ h => h))
            clear hd hm
            clear x0 x1 x2 x3 x4 x5
            obtain ⟨V, hV⟩ : ∃ V : DK, V = { Z with st := settleL Z.st Z.q, q := [] } := ⟨_, rfl⟩
            rw [← hV] at HD9
            have HVO := hid_ (show V.off = false by rw [hV]; exact HZI.out.on)
            have HVN := hid_ (show V.n = s by rw [hV]; exact HZN.out)
            have HVQ := hid_ (show V.q = [] by rw [hV])
            clear hV
            go_wp2_with fail
            refine (contentsE s (fun _ _ => contentsS HD9.out HVO.out) HVN.out).mono ?_
            rintro e w10 ⟨v, rfl, hst, hm⟩
            have HM10 := hid_ (HM9.out.trans hm (fun _ _ => False.elim))
            have HDv := hid_ (HD9.out.mod hm)
            have HST := hid_ (hst)
            clear hm
            clear hst
            obtain ⟨A1, c1, rfl, hrow⟩ := HST.out.form
            have HROW := hid_ hrow
            have HTL := hid_ (show V.texts.length = s by simp [DK.texts, HVN.out])
            obtain ⟨m, hmm⟩ : ∃ m, m = V.texts.length := ⟨_, rfl⟩
            rw [← hmm]
            have HMM := hid_ hmm
            have hms : m ≤ 12 := by rw [hmm, HTL.out]; exact hs2
            have HOKV := hid_ (HDv.out.ok)
            clear hrow hmm
            go_wp2_with fail
            go_loop [15, 16] (fun v i => ∃ (k : Nat) (t : ByteArray), k ≤ m ∧ i = .int .i64 k ∧ v = .string t ∧ t.data.toList = (V.texts.take k).flatMap (fun b => b.data.toList) ∧ t.size ≤ k * 64) (fun _ i => m - (intOf i).toNat)
            case atStart => exact ⟨0, ⟨#[]⟩, Nat.zero_le _, rfl, rfl, rfl, Nat.le_refl _⟩
            case round =>
              obtain ⟨k, t, hk, rfl, rfl, ht, hts⟩ := hrel
              have HTT := hid_ ht
              clear ht
              by_cases hlt : k < m
              · obtain ⟨b, hb⟩ : ∃ b, V.texts[k]? = some b := ⟨_, List.getElem?_eq_getElem (by rw [← HMM.out]; exact hlt)⟩
                obtain ⟨g, hA1, hg, cg⟩ := HROW.out k b hb
                have hbs : b.size = 64 := by
                  have hkn : k < V.n := by rw [HVN.out, ← HTL.out, ← HMM.out]; exact hlt
                  have : b = V.textAt k := by simpa [DK.texts, hkn] using hb.symm
                  rw [this]; exact HOKV.out.textAt_size k hkn
                have HB := hid_ hb
                have HBS := hid_ hbs
                have hbs2 : b.size ≤ 64 := by omega
                subst hA1
                clear hb hbs
                go_wp2
                go_round
                case rel =>
                  refine ⟨k + 1, t ++ b, by omega, by go_num, rfl, ?_, ?_⟩
                  · rw [ba_append, HTT.out, List.take_add_one, HB.out]; simp
                  · rw [ByteArray.size_append, HBS.out]; omega
                case measure => simp [intOf]; omega
              · have hkm : k = m := by omega
                have hall : (⟨V.st.toArray⟩ : ByteArray) = t := by
                  apply ba_ext
                  rw [HTT.out, List.take_of_length_le (by rw [← HMM.out]; omega)]
                  have h1 := secs_all V.st V.n HOKV.out.len
                  rw [DK.texts, List.flatMap_map]
                  have e : ∀ i, (V.textAt i).data.toList = (V.st.drop (i * 64)).take 64 := fun i => by rw [V.sec_quiet HVQ.out]; simp [DK.sec]
                  simp only [e]
                  rw [h1]
                have HALL := hid_ hall
                clear hall
                go_wp2_with fail
                refine (rawE' HDv.out t HALL.out).mono ?_
                rintro e w' ⟨rfl, hw'⟩
                obtain rfl := hw'.symm
                have b3 : (t.toList == t.toList) = true := by simp
                go_wp2_with fail
                go_returns
                exact ⟨rfl, BEL.out _ HM10.out⟩

end Go.Proofs.Ytbioeeccbcaljaa
