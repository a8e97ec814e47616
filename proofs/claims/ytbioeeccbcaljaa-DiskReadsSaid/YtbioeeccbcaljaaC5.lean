/- DiskReads: the walk. -/
import Derived.Test.YtbioeeccbcaljaaC3
set_option linter.unusedVariables false
set_option linter.unusedSimpArgs false
namespace Go.Proofs.Ytbioeeccbcaljaa
open Go.RowKit

theorem StrsAt.store {w : World} {B ga n c : Nat} {l : List ByteArray} (h : StrsAt w B (.slice (some ⟨ga, 0, none⟩) n c) l) (k : Nat) (t : ByteArray) (hk : k < l.length) :
    StrsAt (w.setCell ⟨ga, k, none⟩ (.string t)) B (.slice (some ⟨ga, 0, none⟩) n c) (l.set k t) := by
  obtain ⟨g, cap, hv, _, _, _, _, hs⟩ := h.slice (by omega)
  injection hv with hp _ _
  injection hp with hp
  injection hp with hp
  subst hp
  exact hs k t hk
theorem Mod.setOne {w w' : World} (h : Mod Nothing w w') {p : Addr} (u : Value) : Mod (fun k => k = p.block) w (w'.setCell p u) :=
  (Mod.mono (S' := fun k => k = p.block) h (fun _ _ => False.elim)).setCell (fun _ => rfl) u
theorem DiskS.far {S T : Nat → Prop} {w w' : World} {d : Nat} {A : DK} (h : DiskS w d S A) (hm : Mod T w w') (hT : ∀ k, S k → ¬ T k) : DiskS w' d S A := by
  obtain ⟨F, hd, hD, hF⟩ := h
  exact ⟨F, hd, hD.mod hm (fun k hk => hT k (hF k hk)), hF⟩


set_option maxRecDepth 100000 in
set_option maxHeartbeats 1000000 in
theorem reads_walk (w : World) (r : Nat) (hr : r < 256) (A : Option Addr) (c n : Nat) (l : List Ac) (hn : l.length = n) (hm : n ≤ 9223372036854775807) (hl : ActsAt w w.heap.size A l) (hwf : ∀ a ∈ l, Ac.Wf a) (x : Ac) (hx : x.Wf) :
    Calls Try.prog 6 #[.int .u8 (r : Int), .slice A n c, x.val] w fun e w' => e = .returned (.bool true) ∧ Below w.heap.size w w' := by
  have HL := hid_ hl
  have HN := hid_ hn
  have HW := hid_ hwf
  clear hl hn hwf
  go_enter Try.func6, Try.ntmps6
  go_wp2_with fail
  obtain ⟨w0, hw0⟩ : ∃ w0, w0 = w.alloc (Obj.cells #[.int .i64 x.kind, .int .i64 x.sector, .int .i64 x.bytes, .string x.text, .bool x.odd, .int .i64 x.after] 34) := ⟨_, rfl⟩
  have hsz : w.heap.size < w0.heap.size := by rw [hw0]; simp
  have BEL := hid_ (fun (w' : World) (hm : Mod (From w0.heap.size) w0 w') => (((hw0 ▸ (((Mod.refl Nothing w).alloc _)) : Mod Nothing w w0).trans (hm.mono (S' := From w.heap.size) (fun i _ h => Nat.le_trans (Nat.le_of_lt hsz) h)) (fun _ hi h => absurd h (Nat.not_le.2 hi))).below (Nat.le_refl _) (fun _ _ h => h) : Below w.heap.size w w'))
  have HX := hid_ (show Bk w0 w.heap.size 34 x.cells by rw [hw0]; exact Bk.new _ _ _)
  have HXL := hid_ hsz
  have HL := hid_ (show ActsAt w0 w0.heap.size A l by rw [hw0]; exact fun k a hk => let ⟨b, off, h1, h2, h3⟩ := HL.out k a hk; ⟨b, off, h1, by simp; omega, fun j u hu => (World.cell?_alloc_lt _ _ _ h2).trans (h3 j u hu)⟩)
  obtain ⟨gx, hgx⟩ : ∃ gx, gx = w.heap.size := ⟨_, rfl⟩
  rw [← hgx] at HX HXL
  rw [← hw0]
  simp only [← hgx]
  clear hw0 hsz
  have HM0 := hid_ (Mod.refl (From w0.heap.size) w0)
  clear hgx
  go_wp2_with fail
  refine (head_any _).mono ?_
  rintro e w1 ⟨rfl, hm⟩
  have HM1 := hid_ (HM0.out.trans hm (fun _ _ => False.elim))
  clear hm
  cases hok : okB l with
  | false =>
    go_wp2_with fail
    refine (ok_any w1 w0.heap.size A l c n HN.out (HL.out.keep (fun k hk => HM1.out.block k hk (Nat.not_le.2 hk))) hm).mono ?_
    rw [hok]
    rintro e w' ⟨rfl, hw'⟩
    obtain rfl := hw'.symm
    clear hok
    go_wp2_with fail
    go_returns
    exact ⟨rfl, BEL.out _ HM1.out⟩
  | true =>
    go_wp2_with fail
    refine (ok_any w1 w0.heap.size A l c n HN.out (HL.out.keep (fun k hk => HM1.out.block k hk (Nat.not_le.2 hk))) hm).mono ?_
    rw [hok]
    rintro e w' ⟨rfl, hw'⟩
    obtain rfl := hw'.symm
    have HOK := hid_ hok
    clear hok
    have hbx := HM1.out.bk HX.out (Nat.not_le.2 HXL.out)
    have x0 := hbx.cell 0
    have x1 := hbx.cell 1
    have x2 := hbx.cell 2
    have x3 := hbx.cell 3
    have x4 := hbx.cell 4
    have x5 := hbx.cell 5
    have hgl := hbx.lt
    simp only [Ac.cells, List.getElem?_cons_succ, List.getElem?_cons_zero] at x0 x1 x2 x3 x4 x5
    cases hokx : okB [x] with
    | false =>
      go_wp2_with fail
      refine (ok_any (w1.alloc (Obj.cells #[.int .i64 x.kind, .int .i64 x.sector, .int .i64 x.bytes, .string x.text, .bool x.odd, .int .i64 x.after] 34)) (w1.heap.size + 1) (some ⟨w1.heap.size, 0, none⟩) [x] 1 1 rfl (acts_one (Bk.new _ 34 x.cells)) (by decide)).mono ?_
      rw [hokx]
      rintro e w' ⟨rfl, hw'⟩
      obtain rfl := hw'.symm
      clear hokx
      have HM2 := hid_ (HM1.out.alloc (Obj.cells #[.int .i64 x.kind, .int .i64 x.sector, .int .i64 x.bytes, .string x.text, .bool x.odd, .int .i64 x.after] 34))
      go_wp2_with fail
      go_returns
      exact ⟨rfl, BEL.out _ HM2.out⟩
    | true =>
      go_wp2_with fail
      refine (ok_any (w1.alloc (Obj.cells #[.int .i64 x.kind, .int .i64 x.sector, .int .i64 x.bytes, .string x.text, .bool x.odd, .int .i64 x.after] 34)) (w1.heap.size + 1) (some ⟨w1.heap.size, 0, none⟩) [x] 1 1 rfl (acts_one (Bk.new _ 34 x.cells)) (by decide)).mono ?_
      rw [hokx]
      rintro e w' ⟨rfl, hw'⟩
      obtain rfl := hw'.symm
      have hxt : x.text.size ≤ 1000 := okB_text hokx (List.mem_singleton.2 rfl)
      have HXT := hid_ hxt
      have HM2 := hid_ (HM1.out.alloc (Obj.cells #[.int .i64 x.kind, .int .i64 x.sector, .int .i64 x.bytes, .string x.text, .bool x.odd, .int .i64 x.after] 34))
      clear hokx hxt
      clear hbx x0 x1 x2 x3 x4 x5 hgl
      obtain ⟨w2, hw2⟩ : ∃ w2, w2 = (w1.alloc (Obj.cells #[.int .i64 x.kind, .int .i64 x.sector, .int .i64 x.bytes, .string x.text, .bool x.odd, .int .i64 x.after] 34)) := ⟨_, rfl⟩
      rw [← hw2] at HM2 ⊢
      clear hw2
      go_wp2_with fail
      refine (size_any r _ hr).mono ?_
      rintro e w' ⟨rfl, hw'⟩
      obtain rfl := hw'.symm
      have hs1 : 1 ≤ secs r := by unfold secs; omega
      have hs2 : secs r ≤ 12 := by unfold secs; omega
      rw [show 1 + r % 12 = secs r from rfl]
      obtain ⟨s, hs⟩ : ∃ s, s = secs r := ⟨_, rfl⟩
      rw [← hs] at hs1 hs2 ⊢
      clear hs
      go_wp2_with fail
      refine (newS (S := From w0.heap.size) s _ hs1 (by omega) (fun k hk => Nat.le_trans HM2.out.size hk)).mono ?_
      rintro e w3 ⟨d, rfl, hd, hm⟩
      have HD3 := hid_ hd
      have HM3 := hid_ (HM2.out.trans hm (fun _ _ => False.elim))
      clear hd hm
      go_wp2_with fail
      go_loopw [10] (fun v wr => ∃ k : Nat, k ≤ n ∧ v = .int .i64 k ∧ DiskS wr d (From w0.heap.size) ((DK.new s).acts (l.take k)) ∧ Mod (From w0.heap.size) w0 wr) (fun v _ => n - (intOf v).toNat)
      case atStart => exact ⟨0, Nat.zero_le _, rfl, HD3.out, HM3.out⟩
      case round =>
        obtain ⟨k, hk, rfl, hdk, hmod⟩ := hrel
        have HD := hid_ hdk
        have HM := hid_ hmod
        clear hdk hmod
        by_cases hlt : k < n
        · obtain ⟨a, ha⟩ : ∃ a, l[k]? = some a := ⟨_, List.getElem?_eq_getElem (by rw [HN.out]; exact hlt)⟩
          have hal : a ∈ l := List.mem_of_getElem? ha
          have HTX := hid_ (okB_text HOK.out hal)
          have HWA := hid_ (HW.out a hal).after
          have hq : ((DK.new s).acts (l.take k)).q.length < 1000000 := by
            have h1 := DK.acts_q (l.take k) (DK.new s)
            have h2 := okB_len HOK.out
            rw [List.length_take] at h1
            have h3 : (DK.new s).q.length = 0 := rfl
            omega
          have HQ := hid_ hq
          obtain ⟨b, off, hA, hb, c0, c1, c2, c3, c4, c5⟩ := (HL.out.keep (fun k hk => HM.out.block k hk (Nat.not_le.2 hk))).six ha
          have HA := hid_ ha
          subst hA
          clear ha hal hq
          go_wp2_with fail
          refine (doS HD.out (fun k hk => Nat.le_trans HM.out.size hk) a HTX.out HWA.out HQ.out).mono ?_
          rintro e w' ⟨rfl, hd', hm'⟩
          have HD' := hid_ hd'
          have HM' := hid_ (HM.out.trans hm' (fun _ _ h => h))
          clear hd' hm' c0 c1 c2 c3 c4 c5
          go_wp2
          go_roundw
          case rel => exact ⟨k + 1, by omega, by go_num, by rw [DK.acts_snoc _ _ _ _ HA.out]; exact HD'.out, HM'.out⟩
          case measure => simp [intOf]; omega
        · have hkn : k = n := by omega
          subst hkn
          have htk : l.take k = l := List.take_of_length_le (by rw [HN.out]; exact Nat.le_refl _)
          rw [htk] at HD
          clear htk hk hlt
          obtain ⟨X, hX⟩ : ∃ X, X = (DK.new s).acts l := ⟨_, rfl⟩
          rw [← hX] at HD
          have hqX : X.q.length ≤ 60 := by
            have h1 := DK.acts_q l (DK.new s)
            have h2 := okB_len HOK.out
            have h3 : (DK.new s).q.length = 0 := rfl
            rw [hX]; omega
          have hnX : X.n = s := by rw [hX, DK.acts_n]; rfl
          have HQX := hid_ hqX
          have HNX := hid_ hnX
          clear hX hnX hqX
          obtain ⟨w4, hw4⟩ : ∃ w4, w4 = wr := ⟨_, rfl⟩
          rw [← hw4] at HD HM ⊢
          clear hw4
          go_wp2_with fail
          refine (startS HD.out (fun k hk => Nat.le_trans HM.out.size hk)).mono ?_
          rintro e w5 ⟨rfl, hd, hm⟩
          have HD5 := hid_ hd
          have HM5 := hid_ (HM.out.trans hm (fun _ _ h => h))
          clear hd hm
          obtain ⟨Y, hY⟩ : ∃ Y, Y = X.start := ⟨_, rfl⟩
          rw [← hY] at HD5
          have HID := hid_ (show Y.Idle by rw [hY]; exact X.start_idle)
          have HYO := hid_ (HID.out.on)
          have HYN := hid_ (show Y.n = s by rw [hY]; exact HNX.out)
          have HYQ := hid_ (show Y.q.length < 1000000 by rw [hY]; have := HQX.out; show X.q.length < 1000000; omega)
          have HFEW := hid_ (DK.texts_few (A := Y) (by rw [HYN.out]; omega))
          clear hY
          go_wp2_with fail
          refine (contentsE s (fun _ _ => contentsS HD5.out HYO.out) HYN.out).mono ?_
          rintro e w6 ⟨va, rfl, hst, hm⟩
          have HM6 := hid_ (HM5.out.trans hm (fun _ _ => False.elim))
          have HDka := hid_ (HD5.out.mod hm)
          have STa := hid_ (hst)
          have HNa := hid_ (hm)
          clear hm
          clear hst
          have HDS := hid_ ((HD5.out).beside HNa.out (g := va.ownBlock) (fun k hk => (strs_low STa.out hk).1))
          obtain ⟨x0, x1, x2, x3, x4, x5⟩ := xfacts HM6.out HX.out HXL.out
          go_wp2_with fail
          go_region_held3 (fun w' => w'.cell? ⟨gx, 0, none⟩ = some (.int .i64 x.kind) ∧ w'.cell? ⟨gx, 1, none⟩ = some (.int .i64 x.sector) ∧ w'.cell? ⟨gx, 2, none⟩ = some (.int .i64 x.bytes) ∧ w'.cell? ⟨gx, 3, none⟩ = some (.string x.text) ∧ w'.cell? ⟨gx, 4, none⟩ = some (.bool x.odd) ∧ w'.cell? ⟨gx, 5, none⟩ = some (.int .i64 x.after))
            (first
              | exact xfacts HM6.out.drew HX.out HXL.out
              | exact xfacts HM7.out HX.out HXL.out
              | exact xfacts HM8.out HX.out HXL.out)
            (first
              | (go_at_call 24; refine (text_any x _ HXT.out).mono ?_; rintro e w7 ⟨rfl, hm⟩; have HM7 := hid_ (HM6.out.drew.trans hm (fun _ _ => False.elim)); have HN7 := hid_ (((Mod.refl Nothing _).drew).trans hm (fun _ _ h => h) : Mod Nothing w6 w7); clear hm)
              | (go_at_call 23; refine (writeS (HDS.out.mod HN7.out) (fun k hk => ⟨Nat.le_trans HM7.out.size hk, fun e => by have h1 := (strs_low STa.out e).2; have h2 := HN7.out.size; omega⟩) x.sector x.txt HYQ.out).mono ?_; rintro e w8 ⟨rfl, hd, hm⟩; have HD8 := hid_ hd; have HX8 := hid_ hm; have HM8 := hid_ (HM7.out.trans hm (fun _ _ h => h.1)); clear hd hm))
          clear x0 x1 x2 x3 x4 x5
          have STa' := hid_ (strs_mod (strs_mod STa.out HN7.out (fun _ _ => id)) HX8.out (fun k hk h => h.2 hk))
          obtain ⟨Z, hZ⟩ : ∃ Z, Z = (Y.write x.sector x.txt).2 := ⟨_, rfl⟩
          obtain ⟨ec, hec⟩ : ∃ ec, ec = (Y.write x.sector x.txt).1 := ⟨_, rfl⟩
          have HZ := hid_ hZ
          have HEC := hid_ hec
          have HZO := hid_ (show Z.off = false by rw [hZ]; exact (HID.out.written x.sector x.txt).1.on)
          have HZN := hid_ (show Z.n = s by rw [hZ, DK.write_n]; exact HYN.out)
          have HFEZ := hid_ (DK.texts_few (A := Z) (by rw [HZN.out]; omega))
          rw [← hZ] at HD8
          rw [← hec]
          clear hZ hec
          go_wp2_with fail
          refine (contentsE s (fun _ _ => contentsS HD8.out HZO.out) HZN.out).mono ?_
          rintro e w9 ⟨vb, rfl, hst, hm⟩
          have HM9 := hid_ (HM8.out.trans hm (fun _ _ => False.elim))
          have HDkb := hid_ (HD8.out.mod hm)
          have STb := hid_ (hst)
          have HNb := hid_ (hm)
          have STa2 := hid_ (strs_mod STa'.out hm (fun _ _ => id))
          clear hm
          clear hst
          go_wp2_with fail
          refine (contentsE s (fun _ _ => contentsS HDkb.out HZO.out) HZN.out).mono ?_
          rintro e w10 ⟨vc, rfl, hst, hm⟩
          have HM10 := hid_ (HM9.out.trans hm (fun _ _ => False.elim))
          have HDkc := hid_ (HDkb.out.mod hm)
          have STc := hid_ (hst)
          have HNc := hid_ (hm)
          have STa3 := hid_ (strs_mod STa2.out hm (fun _ _ => id))
          have STb2 := hid_ (strs_mod STb.out hm (fun _ _ => id))
          clear hm
          clear hst
          go_wp2_with fail
          refine (same_any STb2.out STc.out HFEZ.out HFEZ.out).mono ?_
          rw [decide_eq_true rfl]
          rintro e w11 ⟨rfl, hm⟩
          have HM11 := hid_ (HM10.out.trans hm (fun _ _ => False.elim))
          have HNs := hid_ (hm)
          have HDe := hid_ (HDkc.out.mod hm)
          have STa4 := hid_ (strs_mod STa3.out hm (fun _ _ => id))
          have STb3 := hid_ (strs_mod STb2.out hm (fun _ _ => id))
          clear hm
          by_cases hv : 0 ≤ x.sector ∧ x.sector < Y.n ∧ x.txt.size = 64
          · have hew : Y.write x.sector x.txt = (0, Y.push x.sector.toNat x.txt) := by rw [HID.out.write, if_pos hv]
            have hec : ec = 0 := by rw [HEC.out, hew]
            have hZ : Z = Y.push x.sector.toNat x.txt := by rw [HZ.out, hew]
            subst hec
            subst hZ
            have hv2 := hv.2.1
            rw [HYN.out] at hv2
            have hv1 := hv.1
            have HTZ := hid_ hv.2.2
            have HPT := hid_ (Y.push_texts x.sector.toNat x.txt (by omega))
            clear hv hew
            obtain ⟨q, hq⟩ : ∃ q, q = x.sector.toNat := ⟨_, rfl⟩
            have HQE := hid_ hq
            have hqs : q < s := by omega
            have hxq : x.sector.toNat = q := hq.symm
            clear hq
            obtain ⟨ga, ca, hva, hgb, hgs, hcell, hfro, hset⟩ := STa4.out.slice (by simp [DK.texts, HYN.out]; omega)
            have hlenY : Y.texts.length = s := by simp [DK.texts, HYN.out]
            rw [hlenY] at hva hset
            subst hva
            have HSET := hid_ hset
            have HGB := hid_ hgb
            clear hset hgb hlenY
            obtain ⟨x0, x1, x2, x3, x4, x5⟩ := xfacts HM11.out HX.out HXL.out
            have cg : w11.cell? ⟨ga, q, none⟩ = some (.string (Y.textAt q)) := hcell q _ (by simp [DK.texts, HYN.out, hqs])
            have fg := hfro q
            clear hcell hfro
            go_wp2_with fail
            go_region_held3 (fun w' => w'.cell? ⟨gx, 0, none⟩ = some (.int .i64 x.kind) ∧ w'.cell? ⟨gx, 1, none⟩ = some (.int .i64 x.sector) ∧ w'.cell? ⟨gx, 2, none⟩ = some (.int .i64 x.bytes) ∧ w'.cell? ⟨gx, 3, none⟩ = some (.string x.text) ∧ w'.cell? ⟨gx, 4, none⟩ = some (.bool x.odd) ∧ w'.cell? ⟨gx, 5, none⟩ = some (.int .i64 x.after))
              (first
                | exact xfacts HM11.out.drew HX.out HXL.out
                | exact xfacts HM12.out HX.out HXL.out
                | exact xfacts (HM12.out.setCell (p := ⟨ga, q, none⟩) (fun _ => Nat.le_trans (HM5.out.size) HGB.out) _) HX.out HXL.out)
              (first
                | (go_at_call 24; refine (text_any x _ HXT.out).mono ?_; rintro e w12 ⟨rfl, hm⟩; have cg' := (hm.cell (p := ⟨ga, q, none⟩) hgs id).trans cg; have fg' := (hm.frozen (p := ⟨ga, q, none⟩) hgs id).trans fg; have HM12 := hid_ (HM11.out.drew.trans hm (fun _ _ => False.elim)); have HN12 := hid_ (((Mod.refl Nothing _).drew).trans hm (fun _ _ h => h) : Mod Nothing w11 w12); clear hm))
            rename World.cell? _ _ = _ ∧ _ => hHeld
            clear hHeld cg' fg' cg fg
            have HGA := hid_ (show ga < w6.heap.size from (strs_low STa.out rfl).2)
            have STa5 := hid_ (((strs_mod STa4.out HN12.out (fun _ _ => id)).store q x.txt (by simp [DK.texts, HYN.out, hqs])))
            have HMs := hid_ (((Mod.refl Nothing _).setOne (p := ⟨ga, q, none⟩) (.string x.txt)) : Mod (fun k => k = ga) w12 (w12.setCell ⟨ga, q, none⟩ (.string x.txt)))
            have STb4 := hid_ (strs_mod (strs_mod STb3.out HN12.out (fun _ _ => id)) HMs.out (fun k hk e => by have e : k = ga := e; subst e; have h1 := (strs_low STb.out hk).1; have h2 := HGA.out; have h3 := HN7.out.size; have h4 := HX8.out.size; omega))
            have HDf := hid_ (HDe.out.mod HN12.out |>.far HMs.out (fun k hk e => hk.2 (by subst e; rfl)))
            have HMg := hid_ (HM12.out.trans HMs.out (fun k hk e => by subst e; exact Nat.le_trans HM5.out.size HGB.out))
            obtain ⟨wz, hwz⟩ : ∃ wz, wz = w12.setCell ⟨ga, q, none⟩ (.string x.txt) := ⟨_, rfl⟩
            rw [← hwz] at STa5 STb4 HDf HMg HMs ⊢
            clear hwz
            go_wp2_with fail
            refine (same_any STa5.out STb4.out (by rw [List.length_set]; exact HFEW.out) HFEZ.out).mono ?_
            rw [decide_eq_true (by rw [HPT.out, HQE.out])]
            rintro e w13 ⟨rfl, hm⟩
            have HM13 := hid_ (HMg.out.trans hm (fun _ _ => False.elim))
            have HDg := hid_ (HDf.out.mod hm)
            have HNt := hid_ (hm)
            clear hm
            obtain ⟨V, hV⟩ : ∃ V, V = (Y.push x.sector.toNat x.txt).cut 0 0 := ⟨_, rfl⟩
            have HVO := hid_ (show V.off = true by rw [hV, DK.cut, if_neg (by rw [HZO.out]; simp)])
            have HGU := hid_ (show ga < w13.heap.size by have h1 := HGA.out; have h3 := HN7.out.size; have h4 := HX8.out.size; have h5 := HNb.out.size; have h6 := HNc.out.size; have h7 := HNs.out.size; have h8 := HN12.out.size; have h9 := HMs.out.size; have h10 := HNt.out.size; omega)
            go_wp2_with fail
            refine (failS HDg.out (fun k hk => ⟨Nat.le_trans HM13.out.size hk, fun e => by injection e with e; have e : ga = k := e; have h1 := HGU.out;  omega⟩) 0 0).mono ?_
            rw [← hV]
            rintro e w14 ⟨rfl, hd, hm⟩
            have HD14 := hid_ hd
            have HNu := hid_ (hm.size)
            have HM14 := hid_ (HM13.out.trans hm (fun _ _ h => h.1))
            clear hd hm
            have HVE := hid_ hV
            clear hV
            go_wp2_with fail
            refine (fillA _).mono ?_
            rintro e w15 ⟨rfl, hm⟩
            have HM15 := hid_ (HM14.out.trans hm (fun _ _ => False.elim))
            have HDh := hid_ (HD14.out.mod hm)
            have HNw := hid_ (hm.size)
            clear hm
            have HVQ := hid_ (show V.q.length < 1000000 by rw [HVE.out, DK.cut, if_neg (by rw [HZO.out]; simp)]; exact (by decide : 0 < 1000000))
            go_wp2_with fail
            refine (writeS HDh.out (fun k hk => ⟨Nat.le_trans HM15.out.size hk, fun e => by injection e with e; have e : ga = k := e; have h1 := HGU.out; have h2 := HNu.out; have h3 := HNw.out; omega⟩) 0 _ HVQ.out).mono ?_
            rw [show V.write 0 hA = (22, V) by rw [DK.write, if_pos HVO.out]]
            rintro e w16 ⟨rfl, hd, hm⟩
            have HD16 := hid_ hd
            have HNv := hid_ (hm.size)
            have HM16 := hid_ (HM15.out.trans hm (fun _ _ h => h.1))
            clear hd hm
            go_wp2_with fail
            refine (readS HD16.out 0).mono ?_
            rw [show V.read 0 = (⟨#[]⟩, 22) by rw [DK.read, if_pos HVO.out]]
            rintro e w17 ⟨rfl, hm⟩
            have HM17 := hid_ (HM16.out.trans hm (fun _ _ => False.elim))
            clear hm
            go_wp2_with fail
            go_returns
            exact ⟨rfl, BEL.out _ HM17.out⟩
          · have hew : Y.write x.sector x.txt = (1, Y) := by rw [HID.out.write, if_neg hv]
            have hec : ec = 1 := by rw [HEC.out, hew]
            have hZ : Z = Y := by rw [HZ.out, hew]
            subst hec
            subst hZ
            rw [HYN.out] at hv
            have HV := hid_ hv
            clear hv hew
            go_wp2_with fail
            refine (same_any STa4.out STb3.out HFEW.out HFEZ.out).mono ?_
            rw [decide_eq_true rfl]
            rintro e w18 ⟨rfl, hm⟩
            have HM18 := hid_ (HM11.out.trans hm (fun _ _ => False.elim))
            clear hm
            obtain ⟨x0, x1, x2, x3, x4, x5⟩ := xfacts HM18.out HX.out HXL.out
            have hz : ((x.txt.size : Int) != 64) = true ∨ x.sector < 0 ∨ (s : Int) ≤ x.sector := by
              rcases Classical.em (x.txt.size = 64) with h | h
              · refine .inr ?_
                have hv := HV.out
                rcases Classical.em (x.sector < 0) with h1 | h1
                · exact .inl h1
                · exact .inr (Classical.byContradiction fun h2 => hv ⟨by omega, by omega, h⟩)
              · exact .inl (by rw [bne_iff_ne]; omega)
            by_cases h1 : x.sector < 0
            · go_wp2_with fail
              go_returns
              exact ⟨rfl, BEL.out _ HM18.out⟩
            by_cases h2 : (s : Int) ≤ x.sector
            · go_wp2_with fail
              go_returns
              exact ⟨rfl, BEL.out _ HM18.out⟩
            have hz : ((x.txt.size : Int) != 64) = true := by
              rcases hz with h | h | h
              · exact h
              · exact absurd h h1
              · exact absurd h h2
            go_wp2_with fail
            refine (text_any x _ HXT.out).mono ?_
            rintro e w19 ⟨rfl, hm⟩
            have HM19 := hid_ (HM18.out.trans hm (fun _ _ => False.elim))
            clear hm
            go_wp2_with fail
            go_returns
            exact ⟨rfl, BEL.out _ HM19.out⟩

end Go.Proofs.Ytbioeeccbcaljaa
