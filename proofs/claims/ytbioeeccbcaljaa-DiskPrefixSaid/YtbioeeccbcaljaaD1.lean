/- DiskPrefix: the walk. -/
import Derived.Test.YtbioeeccbcaljaaC9
set_option linter.unusedVariables false
set_option linter.unusedSimpArgs false
namespace Go.Proofs.Ytbioeeccbcaljaa
open Go.RowKit

theorem DK.more_size {V : DK} (hV : V.Ok) {q : List (Nat × ByteArray)} (ho : QOk V.n q) {i : Nat} (hi : i < V.n) : ((V.more q).textAt i).size = 64 := by
  refine readQ_size i _ _ ?_ (fun p hp => ?_)
  · show ((V.st.drop (i * 64)).take 64).toArray.size = 64
    have := hV.len
    simp
    omega
  · rcases List.mem_append.1 hp with h | h
    · exact (hV.items p h).2
    · exact (ho p h).2
theorem DK.first_none {V : DK} (h : V.Idle) (hq : V.q = []) (hl : V.st.length = V.n * 64) {q : List (Nat × ByteArray)} (ho : QOk V.n q) (K b : Nat) (hb : b ≤ 64) (hK : q[K]? = none) :
    (((V.more q).cut K b).start).texts = (V.more (q.take K)).texts := by
  have hlen : q.length ≤ K := List.getElem?_eq_none_iff.1 hK
  have hn : (((V.more q).cut K b).start).n = V.n := by show ((V.more q).cut K b).n = V.n; rw [DK.cut_n]; rfl
  have hn2 : (V.more (q.take K)).n = V.n := rfl
  unfold DK.texts
  rw [hn, hn2]
  apply List.map_congr_left
  intro i hi
  have hi' : i < V.n := List.mem_range.1 hi
  apply ba_ext
  have := DK.cut_text h hq hl ho K b hi'
  have hc : clampN (K : Int) q.length = q.length := by simp [clampN]; omega
  rw [hc, List.getElem?_eq_none (Nat.le_refl _), List.take_of_length_le (Nat.le_refl _)] at this
  rw [List.take_of_length_le hlen]
  exact this
theorem DK.first_some {V : DK} (h : V.Idle) (hq : V.q = []) (hl : V.st.length = V.n * 64) {q : List (Nat × ByteArray)} (ho : QOk V.n q) (K b : Nat) (hb : b ≤ 64) {i : Nat} {T C : ByteArray} (hK : q[K]? = some (i, T))
    (hC : bts C = (bts T).take b ++ (bts ((V.more (q.take K)).textAt i)).drop b) :
    (((V.more q).cut K b).start).texts = (V.more (q.take K)).texts.set i C := by
  have hlen : K < q.length := (List.getElem?_eq_some_iff.1 hK).1
  have hn : (((V.more q).cut K b).start).n = V.n := by show ((V.more q).cut K b).n = V.n; rw [DK.cut_n]; rfl
  have hn2 : (V.more (q.take K)).n = V.n := rfl
  have hc : clampN (K : Int) q.length = K := by simp [clampN]; omega
  have hcb : clampN (b : Int) 64 = b := by simp [clampN]; omega
  apply List.ext_getElem?
  intro j
  rw [List.getElem?_set]
  unfold DK.texts
  rw [hn, hn2]
  by_cases hj : j < V.n
  · have := DK.cut_text h hq hl ho K b hj
    rw [hc, hK, hcb] at this
    simp only at this
    simp only [List.getElem?_map, List.getElem?_range hj, Option.map_some, List.length_map, List.length_range]
    by_cases e : i = j
    · subst e
      rw [if_pos rfl] at this
      rw [if_pos rfl, if_pos hj]
      congr 1
      apply ba_ext
      exact this.trans hC.symm
    · rw [if_neg e] at this
      rw [if_neg e]
      congr 1
      exact ba_ext this
  · have hi : i < V.n := (ho _ (List.mem_of_getElem? hK)).1
    rw [List.getElem?_eq_none (by simp; omega), if_neg (by omega), List.getElem?_eq_none (by simp; omega)]
theorem ActsAt.upto {w : World} {B B' : Nat} {A : Option Addr} {l : List Ac} (h : ActsAt w B A l) (hB : B ≤ B') : ActsAt w B' A l :=
  fun k a hk => let ⟨b, off, h1, h2, h3⟩ := h k a hk; ⟨b, off, h1, Nat.lt_of_lt_of_le h2 hB, h3⟩
def Ac.none_ : Ac := ⟨0, -1, 0, ⟨#[]⟩, false, 0⟩
/-- The next write, as the law keeps it. -/
def NextIs (nx : Ac) (q : List (Nat × ByteArray)) (K : Nat) : Prop :=
  match q[K]? with
  | none => nx.sector = -1
  | some p => nx.sector = p.1 ∧ nx.txt = p.2 ∧ nx.text.size ≤ 1000
theorem NextIs.push_ne {nx : Ac} {q : List (Nat × ByteArray)} {K : Nat} (h : NextIs nx q K) (p : Nat × ByteArray) (hK : q.length ≠ K) : NextIs nx (q ++ [p]) K := by
  unfold NextIs at h ⊢
  have e : (q ++ [p])[K]? = q[K]? := by
    rcases Nat.lt_or_ge K q.length with h1 | h1
    · exact List.getElem?_append_left h1
    · rw [List.getElem?_eq_none (l := q) h1, List.getElem?_eq_none (by simp; omega)]
  rw [e]; exact h
theorem NextIs.push_eq {a : Ac} {q : List (Nat × ByteArray)} {K : Nat} {i : Nat} {T : ByteArray} (hK : q.length = K) (h1 : a.sector = i) (h2 : a.txt = T) (h3 : a.text.size ≤ 1000) : NextIs a (q ++ [(i, T)]) K := by
  unfold NextIs
  subst hK
  simp [h1, h2, h3]
theorem StrsAt.storeR {w : World} {B ga n c : Nat} {l : List ByteArray} (h : StrsAt w B (.slice (some ⟨ga, 0, none⟩) n c) l) (k : Nat) (t : ByteArray) (hk : k < l.length) :
    StrsAt (w.setCell ⟨ga, k, none⟩ (.string t)) B (.slice (some ⟨ga, 0, none⟩) n c) (l.set k t) := by
  obtain ⟨g, cap, hv, _, _, _, _, hs⟩ := h.slice (by omega)
  injection hv with hp _ _
  injection hp with hp
  injection hp with hp
  subst hp
  exact hs k t hk
theorem Bk.sixc {w : World} {g : Nat} {t : TypeId} {a b c d e f : Value} (h : Bk w g t [a, b, c, d, e, f]) :
    w.cell? ⟨g, 0, none⟩ = some a ∧ w.cell? ⟨g, 1, none⟩ = some b ∧ w.cell? ⟨g, 2, none⟩ = some c ∧ w.cell? ⟨g, 3, none⟩ = some d ∧ w.cell? ⟨g, 4, none⟩ = some e ∧ w.cell? ⟨g, 5, none⟩ = some f :=
  ⟨h.cell 0, h.cell 1, h.cell 2, h.cell 3, h.cell 4, h.cell 5⟩
theorem Bk.six {w : World} {g : Nat} {t : TypeId} {a b c d e f : Value} (h : Bk w g t [a, b, c, d, e, f]) :
    w.cell? ⟨g, 0, none⟩ = some a ∧ w.cell? ⟨g, 1, none⟩ = some b ∧ w.cell? ⟨g, 2, none⟩ = some c ∧ w.cell? ⟨g, 3, none⟩ = some d ∧ w.cell? ⟨g, 4, none⟩ = some e ∧ w.cell? ⟨g, 5, none⟩ = some f ∧
      w.frozen? ⟨g, 0, none⟩ = false ∧ w.frozen? ⟨g, 1, none⟩ = false ∧ w.frozen? ⟨g, 2, none⟩ = false ∧ w.frozen? ⟨g, 3, none⟩ = false ∧ w.frozen? ⟨g, 4, none⟩ = false ∧ w.frozen? ⟨g, 5, none⟩ = false :=
  ⟨h.cell 0, h.cell 1, h.cell 2, h.cell 3, h.cell 4, h.cell 5, h.frozen 0, h.frozen 1, h.frozen 2, h.frozen 3, h.frozen 4, h.frozen 5⟩


set_option maxRecDepth 100000 in
set_option maxHeartbeats 16000000 in
theorem prefix_walk (w : World) (r : Nat) (hr : r < 256) (A : Option Addr) (c n : Nat) (l : List Ac) (hn : l.length = n) (hm : n ≤ 9223372036854775807) (hl : ActsAt w w.heap.size A l) (hwf : ∀ a ∈ l, Ac.Wf a) (A2 : Option Addr) (c2 n2 : Nat) (l2 : List Ac) (hn2 : l2.length = n2) (hm2 : n2 ≤ 9223372036854775807) (hl2 : ActsAt w w.heap.size A2 l2) (hwf2 : ∀ a ∈ l2, Ac.Wf a) (u3 : Nat) (hu3 : u3 < 256) (u4 : Nat) (hu4 : u4 < 256) :
    Calls Try.prog 5 #[.int .u8 (r : Int), .slice A n c, .slice A2 n2 c2, .int .u8 (u3 : Int), .int .u8 (u4 : Int)] w fun e w' => e = .returned (.bool true) ∧ Below w.heap.size w w' := by
  have HL := hid_ hl
  have HN := hid_ hn
  have HW := hid_ hwf
  clear hl hn hwf
  have HL2 := hid_ hl2
  have HN2 := hid_ hn2
  have HW2 := hid_ hwf2
  clear hl2 hn2 hwf2
  go_enter Try.func5, Try.ntmps5
  obtain ⟨w0, hw0⟩ : ∃ w0, w0 = w := ⟨_, rfl⟩
  have HL := hid_ (show ActsAt w0 w0.heap.size A l by rw [hw0]; exact HL.out)
  have HL2 := hid_ (show ActsAt w0 w0.heap.size A2 l2 by rw [hw0]; exact HL2.out)
  rw [← hw0]
  clear hw0
  have BEL := hid_ (fun (w' : World) (hm : Mod (From w0.heap.size) w0 w') => (hm.below (Nat.le_refl _) (fun i hi h => absurd h (Nat.not_le.2 hi)) : Below w0.heap.size w0 w'))
  have HM0 := hid_ (Mod.refl (From w0.heap.size) w0)
  go_wp2_with fail
  refine (head_any _).mono ?_
  rintro e w1 ⟨rfl, hm⟩
  have HM1 := hid_ (HM0.out.trans hm (fun _ _ => False.elim))
  clear hm
  cases hok : okB l with
  | false =>
    go_wp2_with fail
    refine (ok_any w1 w0.heap.size A l c n HN.out (HL.out.keep (fun k hk => HM1.out.block k hk (Nat.not_le.2 hk))) hm).mono ?_
    rw [hok]
    rintro e w' ⟨rfl, hw'⟩
    obtain rfl := hw'.symm
    clear hok
    go_wp2_with fail
    go_returns
    exact ⟨rfl, BEL.out _ HM1.out⟩
  | true =>
    go_wp2_with fail
    refine (ok_any w1 w0.heap.size A l c n HN.out (HL.out.keep (fun k hk => HM1.out.block k hk (Nat.not_le.2 hk))) hm).mono ?_
    rw [hok]
    rintro e w' ⟨rfl, hw'⟩
    obtain rfl := hw'.symm
    have HOK := hid_ hok
    clear hok
    cases hok : okB l2 with
    | false =>
      go_wp2_with fail
      refine (ok_any w1 w0.heap.size A2 l2 c2 n2 HN2.out (HL2.out.keep (fun k hk => HM1.out.block k hk (Nat.not_le.2 hk))) hm2).mono ?_
      rw [hok]
      rintro e w' ⟨rfl, hw'⟩
      obtain rfl := hw'.symm
      clear hok
      go_wp2_with fail
      go_returns
      exact ⟨rfl, BEL.out _ HM1.out⟩
    | true =>
      go_wp2_with fail
      refine (ok_any w1 w0.heap.size A2 l2 c2 n2 HN2.out (HL2.out.keep (fun k hk => HM1.out.block k hk (Nat.not_le.2 hk))) hm2).mono ?_
      rw [hok]
      rintro e w' ⟨rfl, hw'⟩
      obtain rfl := hw'.symm
      have HOK2 := hid_ hok
      clear hok
      go_wp2_with fail
      refine (size_any r _ hr).mono ?_
      rintro e w' ⟨rfl, hw'⟩
      obtain rfl := hw'.symm
      have hs1 : 1 ≤ secs r := by unfold secs; omega
      have hs2 : secs r ≤ 12 := by unfold secs; omega
      rw [show 1 + r % 12 = secs r from rfl]
      obtain ⟨s, hs⟩ : ∃ s, s = secs r := ⟨_, rfl⟩
      rw [← hs] at hs1 hs2 ⊢
      clear hs
      go_wp2_with fail
      obtain ⟨K, hKe⟩ : ∃ K : Nat, K = u3 % 61 := ⟨_, rfl⟩
      obtain ⟨bb, hbe⟩ : ∃ b : Nat, b = u4 % 33 := ⟨_, rfl⟩
      rw [show ((u3 : Int) % 61) = (K : Int) by omega, show ((u4 : Int) % 33) = (bb : Int) by omega]
      have hK1 : K ≤ 60 := by omega
      have hb1 : bb ≤ 32 := by omega
      clear hKe hbe
      refine (newS (S := From w0.heap.size) s _ hs1 (by omega) (fun k hk => Nat.le_trans HM1.out.size hk)).mono ?_
      rintro e w2 ⟨d, rfl, hd, hm⟩
      have HD2 := hid_ hd
      have HM2 := hid_ (HM1.out.trans hm (fun _ _ => False.elim))
      clear hd hm
      go_wp2_with fail
      go_loopw [16] (fun v wr => ∃ k : Nat, k ≤ n ∧ v = .int .i64 k ∧ DiskS wr d (From w0.heap.size) ((DK.new s).acts (l.take k)) ∧ Mod (From w0.heap.size) w0 wr) (fun v _ => n - (intOf v).toNat)
      case atStart => exact ⟨0, Nat.zero_le _, rfl, HD2.out, HM2.out⟩
      case round =>
        obtain ⟨k, hk, rfl, hdk, hmod⟩ := hrel
        have HD := hid_ hdk
        have HM := hid_ hmod
        clear hdk hmod
        by_cases hlt : k < n
        · obtain ⟨a, ha⟩ : ∃ a, l[k]? = some a := ⟨_, List.getElem?_eq_getElem (by rw [HN.out]; exact hlt)⟩
          have hal : a ∈ l := List.mem_of_getElem? ha
          have HTX := hid_ (okB_text HOK.out hal)
          have HWA := hid_ (HW.out a hal).after
          have hq : ((DK.new s).acts (l.take k)).q.length < 1000000 := by
            have h1 := DK.acts_q (l.take k) (DK.new s)
            have h2 := okB_len HOK.out
            rw [List.length_take] at h1
            have h3 : (DK.new s).q.length = 0 := rfl
            omega
          have HQ := hid_ hq
          obtain ⟨b, off, hA, hb, c0, c1, c2, c3, c4, c5⟩ := (HL.out.keep (fun k hk => HM.out.block k hk (Nat.not_le.2 hk))).six ha
          have HA := hid_ ha
          subst hA
          clear ha hal hq
          go_wp2_with fail
          refine (doS HD.out (fun k hk => Nat.le_trans HM.out.size hk) a HTX.out HWA.out HQ.out).mono ?_
          rintro e w' ⟨rfl, hd', hm'⟩
          have HD' := hid_ hd'
          have HM' := hid_ (HM.out.trans hm' (fun _ _ h => h))
          clear hd' hm' c0 c1 c2 c3 c4 c5
          go_wp2
          go_roundw
          case rel => exact ⟨k + 1, by omega, by go_num, by rw [DK.acts_snoc _ _ _ _ HA.out]; exact HD'.out, HM'.out⟩
          case measure => simp [intOf]; omega
        · have hkn : k = n := by omega
          subst hkn
          have htk : l.take k = l := List.take_of_length_le (by rw [HN.out]; exact Nat.le_refl _)
          rw [htk] at HD
          clear htk hk hlt
          obtain ⟨X, hX⟩ : ∃ X, X = (DK.new s).acts l := ⟨_, rfl⟩
          rw [← hX] at HD
          have hqX : X.q.length ≤ 60 := by
            have h1 := DK.acts_q l (DK.new s)
            have h2 := okB_len HOK.out
            have h3 : (DK.new s).q.length = 0 := rfl
            rw [hX]; omega
          have hnX : X.n = s := by rw [hX, DK.acts_n]; rfl
          have HQX := hid_ hqX
          have HNX := hid_ hnX
          have HXE := hid_ hX
          clear hX hnX hqX
          obtain ⟨w3, hw3⟩ : ∃ w3, w3 = wr := ⟨_, rfl⟩
          rw [← hw3] at HD HM ⊢
          clear hw3
          go_wp2_with fail
          refine (startS HD.out (fun k hk => Nat.le_trans HM.out.size hk)).mono ?_
          rintro e w4 ⟨rfl, hd, hm⟩
          have HD4 := hid_ hd
          have HM4 := hid_ (HM.out.trans hm (fun _ _ h => h))
          clear hd hm
          obtain ⟨Y, hY⟩ : ∃ Y, Y = X.start := ⟨_, rfl⟩
          rw [← hY] at HD4
          have HID0 := hid_ (show Y.Idle by rw [hY]; exact X.start_idle)
          have HYN := hid_ (show Y.n = s by rw [hY]; exact HNX.out)
          have HYE := hid_ hY
          clear hY
          have HSY := hid_ HID0.out.sync
          go_wp2_with fail
          refine (syncS HD4.out (fun k hk => Nat.le_trans HM4.out.size hk)).mono ?_
          rw [HSY.out]
          rintro e w5 ⟨rfl, hd, hm⟩
          have HD5 := hid_ hd
          have HM5 := hid_ (HM4.out.trans hm (fun _ _ h => h))
          clear hd hm
          obtain ⟨V, hV⟩ : ∃ V : DK, V = { Y with st := settleL Y.st Y.q, q := [] } := ⟨_, rfl⟩
          rw [← hV] at HD5
          have HID := hid_ (show V.Idle by rw [hV]; exact HID0.out.synced)
          have HVO := hid_ HID.out.on
          have HVN := hid_ (show V.n = s by rw [hV]; exact HYN.out)
          have HVQ := hid_ (show V.q = [] by rw [hV])
          have HVOK := hid_ HD5.out.ok
          have HVE := hid_ (show V = synced s l by rw [hV, HYE.out, HXE.out]; rfl)
          clear hV
          obtain ⟨gn, hgn⟩ : ∃ gn, gn = w5.heap.size := ⟨_, rfl⟩
          have HGS := hid_ (show w5.heap.size ≤ gn from Nat.le_of_eq hgn.symm)
          have HBN := hid_ (show Bk (w5.alloc (.cells #[.int .i64 0, .int .i64 (-1), .int .i64 0, .string ⟨#[]⟩, .bool false, .int .i64 0] 34)) gn 34 Ac.none_.cells by rw [hgn]; exact Bk.new _ _ _)
          have HDW := hid_ (HD5.out.beside ((Mod.refl Nothing _).alloc (.cells #[.int .i64 0, .int .i64 (-1), .int .i64 0, .string ⟨#[]⟩, .bool false, .int .i64 0] 34)) (g := some gn) (fun k hk => by rw [← hgn]; injection hk with hk; exact Nat.le_of_eq hk))
          have HMg := hid_ (HM5.out.alloc (.cells #[.int .i64 0, .int .i64 (-1), .int .i64 0, .string ⟨#[]⟩, .bool false, .int .i64 0] 34))
          go_wp2_with fail
          obtain ⟨wm, hwm⟩ : ∃ wm, wm = w5.alloc (.cells #[.int .i64 0, .int .i64 (-1), .int .i64 0, .string ⟨#[]⟩, .bool false, .int .i64 0] 34) := ⟨_, rfl⟩
          rw [← hwm] at HBN HDW HMg ⊢
          rw [← hgn]
          clear hwm hgn
          go_loopw [17, 19] (fun dn v wr => ∃ (k : Nat) (nx : Ac), k ≤ n2 ∧ v = .int .i64 k ∧ dn = .int .i64 ((pushes s (l2.take k)).length : Nat) ∧ DiskS wr d (fun k => From w0.heap.size k ∧ some gn ≠ some k) (V.more (pushes s (l2.take k))) ∧ Bk wr gn 34 nx.cells ∧ NextIs nx (pushes s (l2.take k)) K ∧ Mod (From w0.heap.size) w0 wr) (fun _ v _ => n2 - (intOf v).toNat)
          case atStart => exact ⟨0, Ac.none_, Nat.zero_le _, rfl, rfl, by rw [show V.more (pushes s (l2.take 0)) = V from V.more_nil]; exact HDW.out, HBN.out, rfl, HMg.out⟩
          case round =>
            obtain ⟨k, nx, hk, rfl, rfl, hdk, hbn, hnx, hmod⟩ := hrel
            have HD := hid_ hdk
            have HM := hid_ hmod
            have HB := hid_ hbn
            have HNX2 := hid_ hnx
            clear hdk hmod hbn hnx
            obtain ⟨dn, hdne⟩ : ∃ dn, dn = (pushes s (l2.take k)).length := ⟨_, rfl⟩
            rw [← hdne]
            have HDN := hid_ hdne
            clear hdne
            by_cases hlt : k < n2
            · skip
              obtain ⟨a, ha⟩ : ∃ a, l2[k]? = some a := ⟨_, List.getElem?_eq_getElem (by rw [HN2.out]; exact hlt)⟩
              have hal : a ∈ l2 := List.mem_of_getElem? ha
              have HTX := hid_ (okB_text HOK2.out hal)
              have HTY := hid_ HTX.out
              have HWA := hid_ (HW2.out a hal)
              have HPK := hid_ (pushes_snoc s l2 k a ha)
              have hq : (V.more (pushes s (l2.take k))).q.length < 1000000 := by
                have h1 := pushes_len s (l2.take k)
                have h2 := okB_len HOK2.out
                rw [List.length_take] at h1
                simp [DK.more, HVQ.out]
                omega
              have HQ := hid_ hq
              obtain ⟨P, hP⟩ : ∃ P, P = pushes s (l2.take k) := ⟨_, rfl⟩
              rw [← hP] at HD HPK HQ HDN HNX2
              obtain ⟨b2, off2, hA, hb, c0, c1, c2', c3, c4, c5⟩ := (HL2.out.keep (fun k hk => HM.out.block k hk (Nat.not_le.2 hk))).six ha
              subst hA
              have HAK := hid_ ha
              clear ha hal hq
              have HPE0 := hid_ hP
              clear hP
              have HUP := hid_ (show Up (fun k => From w0.heap.size k ∧ some gn ≠ some k) wr from fun k hk => ⟨Nat.le_trans HM.out.size hk, fun e => by injection e with e; have h1 := HB.out.lt; omega⟩)
              have HBL2 := hid_ (show b2 < wr.heap.size from Nat.lt_of_lt_of_le hb HM.out.size)
              have HBS := hid_ (show ¬ ((fun k => From w0.heap.size k ∧ some gn ≠ some k) b2) from fun h => absurd hb (Nat.not_lt.2 h.1))
              clear hb
              have HWR := hid_ (DK.more_write HID.out P a)
              obtain ⟨T, hT⟩ : ∃ T, T = a.txt := ⟨_, rfl⟩
              have HCALL := hid_ (fun w => show Calls Try.prog 24 #[a.val] w (TextPost T w) by rw [hT]; exact text_any a w HTX.out)
              have hdn60 : dn ≤ 60 := by have h1 := pushes_len s (l2.take k); have h2 := okB_len HOK2.out; rw [List.length_take] at h1; rw [HDN.out, HPE0.out]; omega
              by_cases hv : goodW s a
              · skip
                have hwr : (V.more P).write a.sector a.txt = (0, V.more (P ++ [(a.sector.toNat, a.txt)])) := by rw [HWR.out, if_pos (by rw [HVN.out]; exact hv)]
                rw [if_pos hv] at HPK
                have HGV := hid_ hv
                obtain ⟨v1, v2, -⟩ := hv
                obtain ⟨q, hqe⟩ := Int.eq_ofNat_of_zero_le v1
                rw [← hT] at hwr HPK
                have HTE := hid_ hT
                clear hT HWR HTX
                obtain ⟨kind, sector, bytes, text, odd, after⟩ := a
                simp only at hqe v1 v2 hwr c0 c1 c2' c3 c4 c5 HPK
                subst hqe
                simp only [Int.toNat_natCast] at hwr HPK
                have HW := hid_ hwr
                clear hwr
                have hqs : q < s := by omega
                go_wp2_with fail
                go_region_held3 (fun w' => w'.cell? ⟨b2, off2 + k * 6, none⟩ = some (.int .i64 kind) ∧ w'.cell? ⟨b2, off2 + k * 6 + 1, none⟩ = some (.int .i64 q) ∧ w'.cell? ⟨b2, off2 + k * 6 + 2, none⟩ = some (.int .i64 bytes) ∧ w'.cell? ⟨b2, off2 + k * 6 + 3, none⟩ = some (.string text) ∧ w'.cell? ⟨b2, off2 + k * 6 + 4, none⟩ = some (.bool odd) ∧ w'.cell? ⟨b2, off2 + k * 6 + 5, none⟩ = some (.int .i64 after))
                  (first
                    | exact ⟨c0, c1, c2', c3, c4, c5⟩
                    | exact ⟨(HN1.out.cell (p := ⟨b2, _, none⟩) HBL2.out id).trans c0, (HN1.out.cell (p := ⟨b2, _, none⟩) HBL2.out id).trans c1, (HN1.out.cell (p := ⟨b2, _, none⟩) HBL2.out id).trans c2', (HN1.out.cell (p := ⟨b2, _, none⟩) HBL2.out id).trans c3, (HN1.out.cell (p := ⟨b2, _, none⟩) HBL2.out id).trans c4, (HN1.out.cell (p := ⟨b2, _, none⟩) HBL2.out id).trans c5⟩
                    | exact ⟨(HN2'.out.cell (p := ⟨b2, _, none⟩) HBL2.out HBS.out).trans c0, (HN2'.out.cell (p := ⟨b2, _, none⟩) HBL2.out HBS.out).trans c1, (HN2'.out.cell (p := ⟨b2, _, none⟩) HBL2.out HBS.out).trans c2', (HN2'.out.cell (p := ⟨b2, _, none⟩) HBL2.out HBS.out).trans c3, (HN2'.out.cell (p := ⟨b2, _, none⟩) HBL2.out HBS.out).trans c4, (HN2'.out.cell (p := ⟨b2, _, none⟩) HBL2.out HBS.out).trans c5⟩)
                  (first
                    | (go_at_call 24; refine (HCALL.out _).mono ?_; rintro e x1 ⟨rfl, hm⟩; have HN1 := hid_ (((Mod.refl Nothing _).drew).trans hm (fun _ _ h => h) : Mod Nothing wr x1); clear hm)
                    | (go_at_call 23; refine (writeS (HD.out.mod HN1.out) (HUP.out.mod HN1.out) (q : Int) T HQ.out).mono ?_; rw [HW.out]; rintro e x2 ⟨rfl, hd, hm⟩; have HD2 := hid_ hd; have HN2' := hid_ (HN1.out.trans2 hm); clear hd hm))
                have HB2 := hid_ (HN2'.out.bk HB.out (fun h => h.2 rfl))
                by_cases hdK : dn = K
                · subst hdK
                  obtain ⟨n0, n1, n2', n3, n4, n5, f0, f1, f2, f3, f4, f5⟩ := HB2.out.six
                  go_wp2_with fail
                  have HS1 := hid_ (show Mod (fun k => k = gn) x2 _ from ((((((Mod.refl (fun k => k = gn) x2).setCell (p := ⟨gn, 0, none⟩) (fun _ => rfl) (.int .i64 kind)).setCell (p := ⟨gn, 1, none⟩) (fun _ => rfl) (.int .i64 q)).setCell (p := ⟨gn, 2, none⟩) (fun _ => rfl) (.int .i64 bytes)).setCell (p := ⟨gn, 3, none⟩) (fun _ => rfl) (.string text)).setCell (p := ⟨gn, 4, none⟩) (fun _ => rfl) (.bool odd)).setCell (p := ⟨gn, 5, none⟩) (fun _ => rfl) (.int .i64 after))
                  have HS2 := hid_ ((((((HB2.out.set 0 (.int .i64 kind)).set 1 (.int .i64 q)).set 2 (.int .i64 bytes)).set 3 (.string text)).set 4 (.bool odd)).set 5 (.int .i64 after))
                  refine ⟨⟨k + 1, ⟨kind, q, bytes, text, odd, after⟩, by omega, by go_num, by rw [HPK.out, List.length_append, ← HDN.out]; go_num, ?_, ?_, ?_, ?_⟩, by simp [intOf]; omega⟩
                  · rw [HPK.out]
                    exact HD2.out.farR HS1.out (fun k hk e => hk.2 (by rw [e]))
                  · exact HS2.out
                  · rw [HPK.out]
                    exact NextIs.push_eq HDN.out.symm rfl HTE.out.symm HTY.out
                  · exact (HM.out.trans HN2'.out (fun _ _ h => h.1)).trans HS1.out (fun i hi e => by subst e; exact Nat.le_trans HM5.out.size HGS.out)
                · go_wp2_with fail
                  refine ⟨⟨k + 1, nx, by omega, by go_num, by rw [HPK.out, List.length_append, ← HDN.out]; go_num, ?_, HB2.out, ?_, ?_⟩, by simp [intOf]; omega⟩
                  · rw [HPK.out]
                    exact HD2.out
                  · rw [HPK.out]
                    exact HNX2.out.push_ne _ (by rw [← HDN.out]; exact hdK)
                  · exact HM.out.trans HN2'.out (fun _ _ h => h.1)
              · skip
                have hwr : (V.more P).write a.sector a.txt = (1, V.more P) := by rw [HWR.out, if_neg (by rw [HVN.out]; exact hv)]
                rw [if_neg hv, List.append_nil] at HPK
                rw [← hT] at hwr
                clear hT HWR HTX hv
                obtain ⟨kind, sector, bytes, text, odd, after⟩ := a
                simp only at hwr c0 c1 c2' c3 c4 c5
                have HW := hid_ hwr
                clear hwr
                go_wp2_with fail
                go_region_held3 (fun w' => w'.cell? ⟨b2, off2 + k * 6, none⟩ = some (.int .i64 kind) ∧ w'.cell? ⟨b2, off2 + k * 6 + 1, none⟩ = some (.int .i64 sector) ∧ w'.cell? ⟨b2, off2 + k * 6 + 2, none⟩ = some (.int .i64 bytes) ∧ w'.cell? ⟨b2, off2 + k * 6 + 3, none⟩ = some (.string text) ∧ w'.cell? ⟨b2, off2 + k * 6 + 4, none⟩ = some (.bool odd) ∧ w'.cell? ⟨b2, off2 + k * 6 + 5, none⟩ = some (.int .i64 after))
                  (first
                    | exact ⟨c0, c1, c2', c3, c4, c5⟩
                    | exact ⟨(HN1.out.cell (p := ⟨b2, _, none⟩) HBL2.out id).trans c0, (HN1.out.cell (p := ⟨b2, _, none⟩) HBL2.out id).trans c1, (HN1.out.cell (p := ⟨b2, _, none⟩) HBL2.out id).trans c2', (HN1.out.cell (p := ⟨b2, _, none⟩) HBL2.out id).trans c3, (HN1.out.cell (p := ⟨b2, _, none⟩) HBL2.out id).trans c4, (HN1.out.cell (p := ⟨b2, _, none⟩) HBL2.out id).trans c5⟩
                    | exact ⟨(HN2'.out.cell (p := ⟨b2, _, none⟩) HBL2.out HBS.out).trans c0, (HN2'.out.cell (p := ⟨b2, _, none⟩) HBL2.out HBS.out).trans c1, (HN2'.out.cell (p := ⟨b2, _, none⟩) HBL2.out HBS.out).trans c2', (HN2'.out.cell (p := ⟨b2, _, none⟩) HBL2.out HBS.out).trans c3, (HN2'.out.cell (p := ⟨b2, _, none⟩) HBL2.out HBS.out).trans c4, (HN2'.out.cell (p := ⟨b2, _, none⟩) HBL2.out HBS.out).trans c5⟩)
                  (first
                    | (go_at_call 24; refine (HCALL.out _).mono ?_; rintro e x1 ⟨rfl, hm⟩; have HN1 := hid_ (((Mod.refl Nothing _).drew).trans hm (fun _ _ h => h) : Mod Nothing wr x1); clear hm)
                    | (go_at_call 23; refine (writeS (HD.out.mod HN1.out) (HUP.out.mod HN1.out) sector T HQ.out).mono ?_; rw [HW.out]; rintro e x2 ⟨rfl, hd, hm⟩; have HD2 := hid_ hd; have HN2' := hid_ (HN1.out.trans2 hm); clear hd hm))
                have HB2 := hid_ (HN2'.out.bk HB.out (fun h => h.2 rfl))
                go_wp2_with fail
                refine ⟨⟨k + 1, nx, by omega, by go_num, by rw [HPK.out, ← HDN.out], ?_, HB2.out, ?_, ?_⟩, by simp [intOf]; omega⟩
                · rw [HPK.out]
                  exact HD2.out
                · rw [HPK.out]
                  exact HNX2.out
                · exact HM.out.trans HN2'.out (fun _ _ h => h.1)
            · have hkn : k = n2 := by omega
              subst hkn
              have htk : l2.take k = l2 := List.take_of_length_le (by rw [HN2.out]; exact Nat.le_refl _)
              rw [htk] at HD HDN HNX2
              clear htk hlt
              obtain ⟨P, hP⟩ : ∃ P, P = pushes s l2 := ⟨_, rfl⟩
              rw [← hP] at HD HDN HNX2
              have HPO := hid_ (show QOk s P by rw [hP]; exact pushes_ok s l2)
              have HPE := hid_ hP
              clear hP
              have HUP := hid_ (show Up (fun k => From w0.heap.size k ∧ some gn ≠ some k) wr from fun k hk => ⟨Nat.le_trans HM.out.size hk, fun e => by injection e with e; have h1 := HB.out.lt; omega⟩)
              go_wp2_with fail
              refine (failS HD.out HUP.out K bb).mono ?_
              rintro e w6 ⟨rfl, hd, hm⟩
              have HD6 := hid_ hd
              have HNf := hid_ (hm)
              have HM6 := hid_ (HM.out.trans hm (fun _ _ h => h.1))
              clear hd hm
              go_wp2_with fail
              refine (startS HD6.out (HUP.out.mod HNf.out)).mono ?_
              rintro e w7 ⟨rfl, hd, hm⟩
              have HD7 := hid_ hd
              have HNg := hid_ (hm)
              have HM7 := hid_ (HM6.out.trans hm (fun _ _ h => h.1))
              clear hd hm
              obtain ⟨Z, hZ⟩ : ∃ Z, Z = ((V.more P).cut K bb).start := ⟨_, rfl⟩
              rw [← hZ] at HD7
              have HZ := hid_ hZ
              have HZO := hid_ (show Z.off = false by rw [hZ]; rfl)
              have HZN := hid_ (show Z.n = s by rw [hZ]; show ((V.more P).cut K bb).n = s; rw [DK.cut_n]; exact HVN.out)
              have HFEZ := hid_ (DK.texts_few (A := Z) (by rw [HZN.out]; omega))
              clear hZ
              have HBf := hid_ (HNg.out.bk (HNf.out.bk HB.out (fun h => h.2 rfl)) (fun h => h.2 rfl))
              go_wp2_with fail
              refine (contentsE s (fun _ _ => contentsS HD7.out HZO.out) HZN.out).mono ?_
              rintro e w8 ⟨va, rfl, hst, hm⟩
              have HM8 := hid_ (HM7.out.trans hm (fun _ _ => False.elim))
              have HDka := hid_ (HD7.out.mod hm)
              have STa := hid_ (hst)
              have HNa := hid_ (hm)
              have HBg := hid_ (hm.bk HBf.out id)
              clear hm
              clear hst
              go_wp2_with fail
              refine (firsts_any w8 s hs1 hs2 A c _ l HN.out hm ((HL.out.keep (fun k hk => HM8.out.block k hk (Nat.not_le.2 hk))).upto HM8.out.size) HW.out A2 c2 _ l2 HN2.out hm2 ((HL2.out.keep (fun k hk => HM8.out.block k hk (Nat.not_le.2 hk))).upto HM8.out.size) HW2.out K (by omega) HOK.out HOK2.out).mono ?_
              rintro e w9 ⟨vb, rfl, hst, hm⟩
              have HM9 := hid_ (HM8.out.trans hm (fun _ _ => False.elim))
              have STa2 := hid_ (strs_mod STa.out hm (fun _ _ => id))
              have HBh := hid_ (hm.bk HBg.out id)
              have STb := hid_ (hst)
              clear hm
              clear hst
              obtain ⟨U, hU⟩ : ∃ U, U = V.more (P.take K) := ⟨_, rfl⟩
              have HUE := hid_ hU
              have HUN := hid_ (show U.n = s by rw [hU]; exact HVN.out)
              have HFEU := hid_ (DK.texts_few (A := U) (by rw [HUN.out]; omega))
              have hUU : (synced s l).more ((pushes s l2).take K) = U := by rw [hU, HPE.out, HVE.out]
              rw [hUU] at STb
              clear hU hUU
              obtain ⟨n0, n1, n2', n3, n4, n5, f0, f1, f2, f3, f4, f5⟩ := HBh.out.six
              have hnx := HNX2.out
              unfold NextIs at hnx
              cases hPK : P[K]? with
              | none =>
                rw [hPK] at hnx
                simp only at hnx
                rw [hnx] at n1
                have HTXE := hid_ (show Z.texts = U.texts by rw [HZ.out, HUE.out]; exact DK.first_none HID.out HVQ.out HVOK.out.len (by rw [HVN.out]; exact HPO.out) K bb (by omega) hPK)
                clear hPK hnx
                go_wp2_with fail
                refine (same_any STa2.out STb.out HFEZ.out HFEU.out).mono ?_
                rw [decide_eq_true HTXE.out]
                rintro e w10 ⟨rfl, hm⟩
                have HM10 := hid_ (HM9.out.trans hm (fun _ _ => False.elim))
                clear hm
                go_wp2_with fail
                go_returns
                exact ⟨rfl, BEL.out _ HM10.out⟩
              | some p =>
                rw [hPK] at hnx
                simp only at hnx
                obtain ⟨hx1, hx2, hx3⟩ := hnx
                have hp1 : p.1 < s := (HPO.out p (List.mem_of_getElem? hPK)).1
                obtain ⟨i, T⟩ := p
                simp only at hx1 hx2 hp1
                have HCALL := hid_ (fun w => show Calls Try.prog 24 #[nx.val] w (TextPost T w) by rw [← hx2]; exact text_any nx w hx3)
                have HPKK := hid_ hPK
                have HTS := hid_ (show T.size = 64 from (HPO.out _ (List.mem_of_getElem? hPK)).2)
                obtain ⟨kind, sector, bytes, text, odd, after⟩ := nx
                simp only at hx1 n0 n1 n2' n3 n4 n5
                subst hx1
                clear hPK hx2 hx3
                obtain ⟨gb, cb, hvb, hgb, hgs, cellb, frob, -⟩ := STb.out.slice (by simp [DK.texts, HUN.out]; omega)
                have hlenU : U.texts.length = s := by simp [DK.texts, HUN.out]
                rw [hlenU] at hvb
                have HVB := hid_ hvb
                have HGB := hid_ hgb
                have HGBS := hid_ hgs
                have HGNS := hid_ HBh.out.lt
                have HNE := hid_ (show gn ≠ gb by have h1 := HBg.out.lt; have h2 := HGB.out; omega)
                subst hvb
                have cW : w9.cell? ⟨gb, i, none⟩ = some (.string (U.textAt i)) := cellb i _ (by simp [DK.texts, HUN.out, hp1])
                have fW := frob i
                have HWS := hid_ (show (U.textAt i).size = 64 by rw [HUE.out]; exact DK.more_size HVOK.out (by rw [HVN.out]; exact HPO.out.take K) (by rw [HVN.out]; exact hp1))
                obtain ⟨W, hW⟩ : ∃ W, W = U.textAt i := ⟨_, rfl⟩
                have HWE := hid_ hW
                rw [← hW] at cW HWS
                have q1 : (bb : Int) ≤ T.size := by have := HTS.out; omega
                have q2 : (bb : Int) ≤ W.size := by have := HWS.out; omega
                have q3 : (0 : Int) ≤ bb := by omega
                have q4 : (i : Int) < s := by omega
                have q5 : (0 : Int) ≤ i := by omega
                have s1 : T.size ≤ 64 := by have := HTS.out; omega
                have s2 : W.size ≤ 64 := by have := HWS.out; omega
                clear cellb frob hgb hlenU hW
                go_wp2_with fail
                go_region_with (first | (go_at_call 24; refine (HCALL.out _).mono ?_; rintro e w10 ⟨rfl, hm⟩; have n0 := (hm.cell (p := ⟨gn, 0, none⟩) HGNS.out id).trans n0; have n1 := (hm.cell (p := ⟨gn, 1, none⟩) HGNS.out id).trans n1; have n2' := (hm.cell (p := ⟨gn, 2, none⟩) HGNS.out id).trans n2'; have n3 := (hm.cell (p := ⟨gn, 3, none⟩) HGNS.out id).trans n3; have n4 := (hm.cell (p := ⟨gn, 4, none⟩) HGNS.out id).trans n4; have n5 := (hm.cell (p := ⟨gn, 5, none⟩) HGNS.out id).trans n5; have cW := (hm.cell (p := ⟨gb, i, none⟩) HGBS.out id).trans cW; have fW := (hm.frozen (p := ⟨gb, i, none⟩) HGBS.out id).trans fW; have HM10 := hid_ (HM9.out.drew.trans hm (fun _ _ => False.elim)); have HN10 := hid_ (((Mod.refl Nothing _).drew).trans hm (fun _ _ h => h) : Mod Nothing w9 w10); clear hm))
                all_goals
                  have HSW := hid_ (((Mod.refl Nothing w10).setOneR (p := ⟨gb, i, none⟩) (.string (T.extract 0 bb ++ W.extract bb W.size))) : Mod (fun k => k = gb) w10 _)
                  have HM11 := hid_ (HM10.out.trans HSW.out (fun k hk e => by subst e; exact Nat.le_trans HM8.out.size HGB.out))
                  have STb2 := hid_ ((strs_mod STb.out HN10.out (fun _ _ => id)).storeR i (T.extract 0 bb ++ W.extract bb W.size) (by simp [DK.texts, HUN.out, hp1]))
                  have STa3 := hid_ (strs_mod (strs_mod STa2.out HN10.out (fun _ _ => id)) HSW.out (fun k hk e => by have e : k = gb := e; have h1 := (strs_low STa.out hk).2; have h2 := HGB.out; omega))
                  obtain ⟨wz, hwz⟩ : ∃ wz, wz = w10.setCell ⟨gb, i, none⟩ (.string (T.extract 0 bb ++ W.extract bb W.size)) := ⟨_, rfl⟩
                  rw [← hwz] at HSW HM11 STb2 STa3 ⊢
                  clear hwz
                  have HTXE := hid_ (show Z.texts = U.texts.set i (T.extract 0 bb ++ W.extract bb W.size) by
                    rw [HZ.out, HUE.out]
                    refine DK.first_some HID.out HVQ.out HVOK.out.len (by rw [HVN.out]; exact HPO.out) K bb (by omega) HPKK.out ?_
                    rw [← HUE.out, ← HWE.out]
                    have h1 := HWS.out
                    simp [bts]
                    rw [List.take_of_length_le]
                    rw [List.length_drop]
                    exact Nat.le_refl _)
                  clear cW fW n0 n1 n2' n3 n4 n5
                  go_wp2_with fail
                  refine (same_any STa3.out STb2.out HFEZ.out (by rw [List.length_set]; exact HFEU.out)).mono ?_
                  rw [decide_eq_true HTXE.out]
                  rintro e w11 ⟨rfl, hm⟩
                  have HM12 := hid_ (HM11.out.trans hm (fun _ _ => False.elim))
                  clear hm
                  go_wp2_with fail
                  go_returns
                  exact ⟨rfl, BEL.out _ HM12.out⟩

end Go.Proofs.Ytbioeeccbcaljaa
