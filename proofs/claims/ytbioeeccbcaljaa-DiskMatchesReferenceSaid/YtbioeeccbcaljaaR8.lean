/- DiskMatchesReference: a disk and the reference beside it; the walk. -/
import Derived.Test.YtbioeeccbcaljaaR7
set_option linter.unusedVariables false
set_option linter.unusedSimpArgs false
namespace Go.Proofs.Ytbioeeccbcaljaa
open Go.RowKit

/-- A disk at da and a reference at dg, both from block N on. -/
def PR (N da dg : Nat) (A C : DK) (w : World) : Prop :=
  ∃ (F : DF) (G : RF), F.d = da ∧ G.d = dg ∧ DiskAt w F A ∧ RefAt w G C ∧ (∀ k, F.has k → ¬ G.has k) ∧ (∀ k, F.has k → N ≤ k) ∧ (∀ k, G.has k → N ≤ k)

section
variable {N da dg : Nat} {A C : DK} {w : World}
theorem PR.left (h : PR N da dg A C w) (hN : N ≤ w.heap.size) : ∃ F : DF, F.d = da ∧ DiskAt w F A ∧ ∀ A' w', DPost F w A' w' → PR N da dg A' C w' ∧ Mod (From N) w w' := by
  obtain ⟨F, G, ha, hb, hA, hC, hs, h1, h2⟩ := h
  refine ⟨F, ha, hA, fun A' w' ⟨F', e, hs', hD, hm⟩ => ⟨⟨F', G, e.trans ha, hb, hD, hC.mod hm (fun k hk hk' => hs k hk' hk), fun k hk hk' => ?_, fun k hk => ?_, h2⟩, hm.mono (fun i _ hi => h1 i hi)⟩⟩
  · rcases hs' k hk with h | h
    · exact hs k h hk'
    · have := hC.lt hk'; omega
  · rcases hs' k hk with h | h
    · exact h1 k h
    · omega
theorem PR.right (h : PR N da dg A C w) (hN : N ≤ w.heap.size) : ∃ G : RF, G.d = dg ∧ RefAt w G C ∧ ∀ C' w', GPost G w C' w' → PR N da dg A C' w' ∧ Mod (From N) w w' := by
  obtain ⟨F, G, ha, hb, hA, hC, hs, h1, h2⟩ := h
  refine ⟨G, hb, hC, fun C' w' ⟨G', e, hs', hD, hm⟩ => ⟨⟨F, G', ha, e.trans hb, hA.mod hm (fun k hk => hs k hk), hD, fun k hk hk' => ?_, h1, fun k hk => ?_⟩, hm.mono (fun i _ hi => h2 i hi)⟩⟩
  · rcases hs' k hk' with h | h
    · exact hs k hk h
    · have := hA.lt hk; omega
  · rcases hs' k hk with h | h
    · exact h2 k h
    · omega
theorem PR.mod {w' : World} (h : PR N da dg A C w) (hm : Mod Nothing w w') : PR N da dg A C w' := by
  obtain ⟨F, G, ha, hb, hA, hC, hs, h1, h2⟩ := h
  exact ⟨F, G, ha, hb, hA.mod hm (fun _ _ => id), hC.mod hm (fun _ _ => id), hs, h1, h2⟩
theorem PR.news {w0 : World} {F : DF} {G : RF} (hA : DiskAt w0 F A) (h1 : ∀ k, F.has k → N ≤ k) (hC : RefAt w G C) (h2 : ∀ k, G.has k → w0.heap.size ≤ k) (hm : Mod Nothing w0 w) (hN : N ≤ w0.heap.size) : PR N F.d G.d A C w :=
  ⟨F, G, rfl, rfl, hA.mod hm (fun _ _ => id), hC, fun k hk hk' => by have := hA.lt hk; have := h2 k hk'; omega, h1, fun k hk => Nat.le_trans hN (h2 k hk)⟩

def PA (N da dg : Nat) (r : ByteArray × Int) (A C : DK) (w : World) (e : Ending) (w' : World) : Prop := e = .returned (.tuple #[.string r.1, .int .i64 r.2]) ∧ PR N da dg A C w' ∧ Mod (From N) w w'
theorem doP (h : PR N da dg A C w) (hN : N ≤ w.heap.size) (a : Ac) (ht : a.text.size ≤ 1000) (ha : a.after ≤ 9223372036854775807) (hfew : A.q.length < 1000000) : Calls Try.prog 16 #[ptr da, a.val] w (PA N da dg (A.act a).1 (A.act a).2 C w) := by
  obtain ⟨F, rfl, hD, hk⟩ := h.left hN
  exact (do_any hD a ht ha hfew).mono fun e w' ⟨he, hp⟩ => ⟨he, hk _ _ hp⟩
theorem wantP (h : PR N da dg A C w) (hN : N ≤ w.heap.size) (a : Ac) (ht : a.text.size ≤ 1000) (ha : a.after ≤ 9223372036854775807) (hfew : C.q.length < 1000000) : Calls Try.prog 17 #[ptr dg, a.val] w (PA N da dg (C.act a).1 A (C.act a).2 w) := by
  obtain ⟨G, rfl, hD, hk⟩ := h.right hN
  exact (want_any hD a ht ha hfew).mono fun e w' ⟨he, hp⟩ => ⟨he, hk _ _ hp⟩
theorem readP (h : PR N da dg A C w) (s : Int) : Calls Try.prog 18 #[ptr da, .int .i64 s] w (RPost (A.read s) w) := by
  obtain ⟨F, G, rfl, _, hA, _⟩ := h
  exact read_any hA s
theorem rreadP (h : PR N da dg A C w) (s : Int) : Calls Try.prog 19 #[ptr dg, .int .i64 s] w (RPost (C.read s) w) := by
  obtain ⟨F, G, _, rfl, _, hC, _⟩ := h
  exact rread_any hC s
end

set_option maxRecDepth 100000 in
set_option maxHeartbeats 4000000 in
theorem match_walk (w : World) (r : Nat) (hr : r < 256) (z : Int) (hz : (Lit.int .i64 z).wf = true) (A : Option Addr) (c n : Nat) (l : List Ac) (hn : l.length = n) (hm : n ≤ 9223372036854775807) (hl : ActsAt w w.heap.size A l) (hwf : ∀ a ∈ l, Ac.Wf a) :
    Calls Try.prog 3 #[.int .u8 (r : Int), .int .i64 z, .slice A n c] w fun e w' => e = .returned (.bool true) ∧ Below w.heap.size w w' := by
  have HL := hid_ hl
  have HN := hid_ hn
  have HW := hid_ hwf
  clear hl hn hwf
  go_enter Try.func3, Try.ntmps3
  go_wp2_with fail
  refine (head_any w).mono ?_
  rintro e w1 ⟨rfl, hm1⟩
  have HM1 := hid_ (hm1.mono (S' := From w.heap.size) (fun _ _ => False.elim))
  have HL1 := hid_ (HL.out.keep (fun k hk => hm1.block k hk id))
  clear hm1
  cases hok : okB l with
  | false =>
    go_wp2_with fail
    refine (ok_any w1 w.heap.size A l c n HN.out HL1.out hm).mono ?_
    rw [hok]
    rintro e w2 ⟨rfl, rfl⟩
    clear hok
    go_wp2_with fail
    go_returns
    exact ⟨rfl, HM1.out.below (Nat.le_refl _) (fun i hi h => absurd h (Nat.not_le.2 hi))⟩
  | true =>
    go_wp2_with fail
    refine (ok_any w1 w.heap.size A l c n HN.out HL1.out hm).mono ?_
    rw [hok]
    rintro e w2 ⟨rfl, rfl⟩
    have HOK := hid_ hok
    clear hok
    by_cases hz1 : z < 1
    · go_wp2_with fail
      refine (new_bad z _ (.inl hz1)).mono ?_
      rintro e w' ⟨rfl, hw'⟩
      obtain rfl := hw'.symm
      have HM3 := hid_ HM1.out

      go_wp2_with fail
      refine (size_any r _ hr).mono ?_
      rintro e w' ⟨rfl, hw'⟩
      obtain rfl := hw'.symm
      have hs1 : 1 ≤ secs r := by unfold secs; omega
      have hs2 : secs r ≤ 12 := by unfold secs; omega
      rw [show 1 + r % 12 = secs r from rfl]
      obtain ⟨s, hs⟩ : ∃ s, s = secs r := ⟨_, rfl⟩
      rw [← hs] at hs1 hs2 ⊢
      have HSR := hid_ hs
      clear hs
      go_wp2_with fail
      refine (new_any s _ hs1 (by omega)).mono ?_
      rintro e w4 ⟨F, rfl, hf, hd, hm⟩
      have HD := hid_ hd
      have HF := hid_ (fun k hk => Nat.le_trans HM3.out.size (hf k hk) : ∀ k, F.has k → w.heap.size ≤ k)
      have HM4 := hid_ (HM3.out.trans hm (fun _ _ => False.elim))
      clear hf hd hm
      go_wp2_with fail
      refine (size_any r _ hr).mono ?_
      rintro e w' ⟨rfl, hw'⟩
      obtain rfl := hw'.symm
      rw [show 1 + r % 12 = s from HSR.out.symm]
      go_wp2_with fail
      refine (rnew_any s _ hs1 (by omega)).mono ?_
      rintro e w5 ⟨G, rfl, hg, hd, hm⟩
      have HP := hid_ (PR.news (N := w.heap.size) HD.out HF.out hd hg hm HM4.out.size)
      have HM5 := hid_ (HM4.out.trans hm (fun _ _ => False.elim))
      clear hg hd hm HD HF
      obtain ⟨da, hda⟩ : ∃ da, da = F.d := ⟨_, rfl⟩
      obtain ⟨dg, hdg⟩ : ∃ dg, dg = G.d := ⟨_, rfl⟩
      rw [← hda, ← hdg] at HP
      simp only [dptr, rptr]
      rw [← hda, ← hdg]
      clear hda hdg
      go_wp2_with fail
      go_loopw [10] (fun v wr => ∃ k : Nat, k ≤ n ∧ v = .int .i64 k ∧ PR w.heap.size da dg ((DK.new s).acts (l.take k)) ((DK.new s).acts (l.take k)) wr ∧ Mod (From w.heap.size) w wr) (fun v _ => n - (intOf v).toNat)
      case atStart => exact ⟨0, Nat.zero_le _, rfl, HP.out, HM5.out⟩
      case round =>
        obtain ⟨k, hk, rfl, hpr, hmod⟩ := hrel
        have HP := hid_ hpr
        have HM := hid_ hmod
        clear hpr hmod
        by_cases hlt : k < n
        · obtain ⟨a, ha⟩ : ∃ a, l[k]? = some a := ⟨_, List.getElem?_eq_getElem (by rw [HN.out]; exact hlt)⟩
          have hal : a ∈ l := List.mem_of_getElem? ha
          have ht := okB_text HOK.out hal
          have hwa := (HW.out a hal).after
          have hq : ((DK.new s).acts (l.take k)).q.length < 1000000 := by
            have h1 := DK.acts_q (l.take k) (DK.new s)
            have h2 := okB_len HOK.out
            rw [List.length_take] at h1
            have h3 : (DK.new s).q.length = 0 := rfl
            omega
          have HQ := hid_ hq
          have HWA := hid_ hwa
          have HTX := hid_ ht
          obtain ⟨b, off, hA, hb, c0, c1, c2, c3, c4, c5⟩ := (HL.out.keep (fun k hk => HM.out.block k hk (Nat.not_le.2 hk))).six ha
          have HA := hid_ ha
          subst hA
          clear ha hal ht hwa hq
          go_wp2_with fail
          refine (doP HP.out HM.out.size a HTX.out HWA.out HQ.out).mono ?_
          rintro e w5 ⟨rfl, ht5, hm5⟩
          have HP5 := hid_ ht5
          have HM6 := hid_ (HM.out.trans hm5 (fun _ _ h => h))
          clear ht5 hm5 c0 c1 c2 c3 c4 c5
          obtain ⟨b', off', hA', hb', c0, c1, c2, c3, c4, c5⟩ := (HL.out.keep (fun k hk => HM6.out.block k hk (Nat.not_le.2 hk))).six HA.out
          simp only [Option.some.injEq, Addr.mk.injEq] at hA'
          obtain ⟨rfl, rfl, -⟩ := hA'
          go_wp2_with fail
          refine (wantP HP5.out HM6.out.size a HTX.out HWA.out HQ.out).mono ?_
          rintro e w6 ⟨rfl, ht6, hm6⟩
          have HP6 := hid_ ht6
          have HM7 := hid_ (HM6.out.trans hm6 (fun _ _ h => h))
          clear ht6 hm6 c0 c1 c2 c3 c4 c5
          go_wp2
          go_roundw
          case rel => exact ⟨k + 1, by omega, by go_num, by rw [DK.acts_snoc _ _ _ _ HA.out]; exact HP6.out, HM7.out⟩
          case measure => simp [intOf]; omega
        · have hkn : k = n := by omega
          subst hkn
          have htk : l.take k = l := List.take_of_length_le (by rw [HN.out]; exact Nat.le_refl _)
          rw [htk] at HP
          clear htk hk hlt
          obtain ⟨X, hX⟩ : ∃ X, X = (DK.new s).acts l := ⟨_, rfl⟩
          rw [← hX] at HP
          clear hX
          obtain ⟨wo, hwo⟩ : ∃ wo : World, wo = wr := ⟨_, rfl⟩
          rw [← hwo] at HP HM ⊢
          clear hwo
          go_wp2_with fail
          go_loopw [15] (fun v wr => ∃ k : Nat, k ≤ s ∧ v = .int .i64 k ∧ PR w.heap.size da dg X X wr ∧ Mod (From w.heap.size) w wr) (fun v _ => s - (intOf v).toNat)
          case atStart => exact ⟨0, Nat.zero_le _, rfl, HP.out, HM.out⟩
          case round =>
            obtain ⟨j, hj, rfl, hpr, hmod⟩ := hrel
            have HP := hid_ hpr
            have HM := hid_ hmod
            clear hpr hmod
            go_wp2_with fail
            refine (size_any r _ hr).mono ?_
            rintro e w' ⟨rfl, hw'⟩
            obtain rfl := hw'.symm
            rw [show 1 + r % 12 = s from HSR.out.symm]
            by_cases hlt : j < s
            · go_wp2_with fail
              refine (readP HP.out (j : Int)).mono ?_
              rintro e w5 ⟨rfl, hm5⟩
              have HP5 := hid_ (HP.out.mod hm5)
              have HM6 := hid_ (HM.out.trans hm5 (fun _ _ => False.elim))
              clear hm5
              go_wp2_with fail
              refine (rreadP HP5.out (j : Int)).mono ?_
              rintro e w6 ⟨rfl, hm6⟩
              have HP6 := hid_ (HP5.out.mod hm6)
              have HM7 := hid_ (HM6.out.trans hm6 (fun _ _ => False.elim))
              clear hm6
              go_wp2
              go_roundw
              case rel => exact ⟨j + 1, by omega, by go_num, HP6.out, HM7.out⟩
              case measure => simp [intOf]; omega
            · go_wp2
              go_returns
              exact ⟨rfl, HM.out.below (Nat.le_refl _) (fun i hi h => absurd h (Nat.not_le.2 hi))⟩
    by_cases hz2 : 8000 < z
    · go_wp2_with fail
      refine (new_bad z _ (.inr hz2)).mono ?_
      rintro e w' ⟨rfl, hw'⟩
      obtain rfl := hw'.symm
      have HM3 := hid_ HM1.out

      go_wp2_with fail
      refine (size_any r _ hr).mono ?_
      rintro e w' ⟨rfl, hw'⟩
      obtain rfl := hw'.symm
      have hs1 : 1 ≤ secs r := by unfold secs; omega
      have hs2 : secs r ≤ 12 := by unfold secs; omega
      rw [show 1 + r % 12 = secs r from rfl]
      obtain ⟨s, hs⟩ : ∃ s, s = secs r := ⟨_, rfl⟩
      rw [← hs] at hs1 hs2 ⊢
      have HSR := hid_ hs
      clear hs
      go_wp2_with fail
      refine (new_any s _ hs1 (by omega)).mono ?_
      rintro e w4 ⟨F, rfl, hf, hd, hm⟩
      have HD := hid_ hd
      have HF := hid_ (fun k hk => Nat.le_trans HM3.out.size (hf k hk) : ∀ k, F.has k → w.heap.size ≤ k)
      have HM4 := hid_ (HM3.out.trans hm (fun _ _ => False.elim))
      clear hf hd hm
      go_wp2_with fail
      refine (size_any r _ hr).mono ?_
      rintro e w' ⟨rfl, hw'⟩
      obtain rfl := hw'.symm
      rw [show 1 + r % 12 = s from HSR.out.symm]
      go_wp2_with fail
      refine (rnew_any s _ hs1 (by omega)).mono ?_
      rintro e w5 ⟨G, rfl, hg, hd, hm⟩
      have HP := hid_ (PR.news (N := w.heap.size) HD.out HF.out hd hg hm HM4.out.size)
      have HM5 := hid_ (HM4.out.trans hm (fun _ _ => False.elim))
      clear hg hd hm HD HF
      obtain ⟨da, hda⟩ : ∃ da, da = F.d := ⟨_, rfl⟩
      obtain ⟨dg, hdg⟩ : ∃ dg, dg = G.d := ⟨_, rfl⟩
      rw [← hda, ← hdg] at HP
      simp only [dptr, rptr]
      rw [← hda, ← hdg]
      clear hda hdg
      go_wp2_with fail
      go_loopw [10] (fun v wr => ∃ k : Nat, k ≤ n ∧ v = .int .i64 k ∧ PR w.heap.size da dg ((DK.new s).acts (l.take k)) ((DK.new s).acts (l.take k)) wr ∧ Mod (From w.heap.size) w wr) (fun v _ => n - (intOf v).toNat)
      case atStart => exact ⟨0, Nat.zero_le _, rfl, HP.out, HM5.out⟩
      case round =>
        obtain ⟨k, hk, rfl, hpr, hmod⟩ := hrel
        have HP := hid_ hpr
        have HM := hid_ hmod
        clear hpr hmod
        by_cases hlt : k < n
        · obtain ⟨a, ha⟩ : ∃ a, l[k]? = some a := ⟨_, List.getElem?_eq_getElem (by rw [HN.out]; exact hlt)⟩
          have hal : a ∈ l := List.mem_of_getElem? ha
          have ht := okB_text HOK.out hal
          have hwa := (HW.out a hal).after
          have hq : ((DK.new s).acts (l.take k)).q.length < 1000000 := by
            have h1 := DK.acts_q (l.take k) (DK.new s)
            have h2 := okB_len HOK.out
            rw [List.length_take] at h1
            have h3 : (DK.new s).q.length = 0 := rfl
            omega
          have HQ := hid_ hq
          have HWA := hid_ hwa
          have HTX := hid_ ht
          obtain ⟨b, off, hA, hb, c0, c1, c2, c3, c4, c5⟩ := (HL.out.keep (fun k hk => HM.out.block k hk (Nat.not_le.2 hk))).six ha
          have HA := hid_ ha
          subst hA
          clear ha hal ht hwa hq
          go_wp2_with fail
          refine (doP HP.out HM.out.size a HTX.out HWA.out HQ.out).mono ?_
          rintro e w5 ⟨rfl, ht5, hm5⟩
          have HP5 := hid_ ht5
          have HM6 := hid_ (HM.out.trans hm5 (fun _ _ h => h))
          clear ht5 hm5 c0 c1 c2 c3 c4 c5
          obtain ⟨b', off', hA', hb', c0, c1, c2, c3, c4, c5⟩ := (HL.out.keep (fun k hk => HM6.out.block k hk (Nat.not_le.2 hk))).six HA.out
          simp only [Option.some.injEq, Addr.mk.injEq] at hA'
          obtain ⟨rfl, rfl, -⟩ := hA'
          go_wp2_with fail
          refine (wantP HP5.out HM6.out.size a HTX.out HWA.out HQ.out).mono ?_
          rintro e w6 ⟨rfl, ht6, hm6⟩
          have HP6 := hid_ ht6
          have HM7 := hid_ (HM6.out.trans hm6 (fun _ _ h => h))
          clear ht6 hm6 c0 c1 c2 c3 c4 c5
          go_wp2
          go_roundw
          case rel => exact ⟨k + 1, by omega, by go_num, by rw [DK.acts_snoc _ _ _ _ HA.out]; exact HP6.out, HM7.out⟩
          case measure => simp [intOf]; omega
        · have hkn : k = n := by omega
          subst hkn
          have htk : l.take k = l := List.take_of_length_le (by rw [HN.out]; exact Nat.le_refl _)
          rw [htk] at HP
          clear htk hk hlt
          obtain ⟨X, hX⟩ : ∃ X, X = (DK.new s).acts l := ⟨_, rfl⟩
          rw [← hX] at HP
          clear hX
          obtain ⟨wo, hwo⟩ : ∃ wo : World, wo = wr := ⟨_, rfl⟩
          rw [← hwo] at HP HM ⊢
          clear hwo
          go_wp2_with fail
          go_loopw [15] (fun v wr => ∃ k : Nat, k ≤ s ∧ v = .int .i64 k ∧ PR w.heap.size da dg X X wr ∧ Mod (From w.heap.size) w wr) (fun v _ => s - (intOf v).toNat)
          case atStart => exact ⟨0, Nat.zero_le _, rfl, HP.out, HM.out⟩
          case round =>
            obtain ⟨j, hj, rfl, hpr, hmod⟩ := hrel
            have HP := hid_ hpr
            have HM := hid_ hmod
            clear hpr hmod
            go_wp2_with fail
            refine (size_any r _ hr).mono ?_
            rintro e w' ⟨rfl, hw'⟩
            obtain rfl := hw'.symm
            rw [show 1 + r % 12 = s from HSR.out.symm]
            by_cases hlt : j < s
            · go_wp2_with fail
              refine (readP HP.out (j : Int)).mono ?_
              rintro e w5 ⟨rfl, hm5⟩
              have HP5 := hid_ (HP.out.mod hm5)
              have HM6 := hid_ (HM.out.trans hm5 (fun _ _ => False.elim))
              clear hm5
              go_wp2_with fail
              refine (rreadP HP5.out (j : Int)).mono ?_
              rintro e w6 ⟨rfl, hm6⟩
              have HP6 := hid_ (HP5.out.mod hm6)
              have HM7 := hid_ (HM6.out.trans hm6 (fun _ _ => False.elim))
              clear hm6
              go_wp2
              go_roundw
              case rel => exact ⟨j + 1, by omega, by go_num, HP6.out, HM7.out⟩
              case measure => simp [intOf]; omega
            · go_wp2
              go_returns
              exact ⟨rfl, HM.out.below (Nat.le_refl _) (fun i hi h => absurd h (Nat.not_le.2 hi))⟩
    obtain ⟨zn, rfl⟩ := Int.eq_ofNat_of_zero_le (show 0 ≤ z by omega)
    clear hz
    go_wp2_with fail
    refine (new_any zn _ (by omega) (by omega)).mono ?_
    rintro e w3 ⟨F0, rfl, hf, hd, hm⟩
    have HM3 := hid_ (HM1.out.trans hm (fun _ _ => False.elim))
    clear hf hd hm

    go_wp2_with fail
    refine (size_any r _ hr).mono ?_
    rintro e w' ⟨rfl, hw'⟩
    obtain rfl := hw'.symm
    have hs1 : 1 ≤ secs r := by unfold secs; omega
    have hs2 : secs r ≤ 12 := by unfold secs; omega
    rw [show 1 + r % 12 = secs r from rfl]
    obtain ⟨s, hs⟩ : ∃ s, s = secs r := ⟨_, rfl⟩
    rw [← hs] at hs1 hs2 ⊢
    have HSR := hid_ hs
    clear hs
    go_wp2_with fail
    refine (new_any s _ hs1 (by omega)).mono ?_
    rintro e w4 ⟨F, rfl, hf, hd, hm⟩
    have HD := hid_ hd
    have HF := hid_ (fun k hk => Nat.le_trans HM3.out.size (hf k hk) : ∀ k, F.has k → w.heap.size ≤ k)
    have HM4 := hid_ (HM3.out.trans hm (fun _ _ => False.elim))
    clear hf hd hm
    go_wp2_with fail
    refine (size_any r _ hr).mono ?_
    rintro e w' ⟨rfl, hw'⟩
    obtain rfl := hw'.symm
    rw [show 1 + r % 12 = s from HSR.out.symm]
    go_wp2_with fail
    refine (rnew_any s _ hs1 (by omega)).mono ?_
    rintro e w5 ⟨G, rfl, hg, hd, hm⟩
    have HP := hid_ (PR.news (N := w.heap.size) HD.out HF.out hd hg hm HM4.out.size)
    have HM5 := hid_ (HM4.out.trans hm (fun _ _ => False.elim))
    clear hg hd hm HD HF
    obtain ⟨da, hda⟩ : ∃ da, da = F.d := ⟨_, rfl⟩
    obtain ⟨dg, hdg⟩ : ∃ dg, dg = G.d := ⟨_, rfl⟩
    rw [← hda, ← hdg] at HP
    simp only [dptr, rptr]
    rw [← hda, ← hdg]
    clear hda hdg
    go_wp2_with fail
    go_loopw [10] (fun v wr => ∃ k : Nat, k ≤ n ∧ v = .int .i64 k ∧ PR w.heap.size da dg ((DK.new s).acts (l.take k)) ((DK.new s).acts (l.take k)) wr ∧ Mod (From w.heap.size) w wr) (fun v _ => n - (intOf v).toNat)
    case atStart => exact ⟨0, Nat.zero_le _, rfl, HP.out, HM5.out⟩
    case round =>
      obtain ⟨k, hk, rfl, hpr, hmod⟩ := hrel
      have HP := hid_ hpr
      have HM := hid_ hmod
      clear hpr hmod
      by_cases hlt : k < n
      · obtain ⟨a, ha⟩ : ∃ a, l[k]? = some a := ⟨_, List.getElem?_eq_getElem (by rw [HN.out]; exact hlt)⟩
        have hal : a ∈ l := List.mem_of_getElem? ha
        have ht := okB_text HOK.out hal
        have hwa := (HW.out a hal).after
        have hq : ((DK.new s).acts (l.take k)).q.length < 1000000 := by
          have h1 := DK.acts_q (l.take k) (DK.new s)
          have h2 := okB_len HOK.out
          rw [List.length_take] at h1
          have h3 : (DK.new s).q.length = 0 := rfl
          omega
        have HQ := hid_ hq
        have HWA := hid_ hwa
        have HTX := hid_ ht
        obtain ⟨b, off, hA, hb, c0, c1, c2, c3, c4, c5⟩ := (HL.out.keep (fun k hk => HM.out.block k hk (Nat.not_le.2 hk))).six ha
        have HA := hid_ ha
        subst hA
        clear ha hal ht hwa hq
        go_wp2_with fail
        refine (doP HP.out HM.out.size a HTX.out HWA.out HQ.out).mono ?_
        rintro e w5 ⟨rfl, ht5, hm5⟩
        have HP5 := hid_ ht5
        have HM6 := hid_ (HM.out.trans hm5 (fun _ _ h => h))
        clear ht5 hm5 c0 c1 c2 c3 c4 c5
        obtain ⟨b', off', hA', hb', c0, c1, c2, c3, c4, c5⟩ := (HL.out.keep (fun k hk => HM6.out.block k hk (Nat.not_le.2 hk))).six HA.out
        simp only [Option.some.injEq, Addr.mk.injEq] at hA'
        obtain ⟨rfl, rfl, -⟩ := hA'
        go_wp2_with fail
        refine (wantP HP5.out HM6.out.size a HTX.out HWA.out HQ.out).mono ?_
        rintro e w6 ⟨rfl, ht6, hm6⟩
        have HP6 := hid_ ht6
        have HM7 := hid_ (HM6.out.trans hm6 (fun _ _ h => h))
        clear ht6 hm6 c0 c1 c2 c3 c4 c5
        go_wp2
        go_roundw
        case rel => exact ⟨k + 1, by omega, by go_num, by rw [DK.acts_snoc _ _ _ _ HA.out]; exact HP6.out, HM7.out⟩
        case measure => simp [intOf]; omega
      · have hkn : k = n := by omega
        subst hkn
        have htk : l.take k = l := List.take_of_length_le (by rw [HN.out]; exact Nat.le_refl _)
        rw [htk] at HP
        clear htk hk hlt
        obtain ⟨X, hX⟩ : ∃ X, X = (DK.new s).acts l := ⟨_, rfl⟩
        rw [← hX] at HP
        clear hX
        obtain ⟨wo, hwo⟩ : ∃ wo : World, wo = wr := ⟨_, rfl⟩
        rw [← hwo] at HP HM ⊢
        clear hwo
        go_wp2_with fail
        go_loopw [15] (fun v wr => ∃ k : Nat, k ≤ s ∧ v = .int .i64 k ∧ PR w.heap.size da dg X X wr ∧ Mod (From w.heap.size) w wr) (fun v _ => s - (intOf v).toNat)
        case atStart => exact ⟨0, Nat.zero_le _, rfl, HP.out, HM.out⟩
        case round =>
          obtain ⟨j, hj, rfl, hpr, hmod⟩ := hrel
          have HP := hid_ hpr
          have HM := hid_ hmod
          clear hpr hmod
          go_wp2_with fail
          refine (size_any r _ hr).mono ?_
          rintro e w' ⟨rfl, hw'⟩
          obtain rfl := hw'.symm
          rw [show 1 + r % 12 = s from HSR.out.symm]
          by_cases hlt : j < s
          · go_wp2_with fail
            refine (readP HP.out (j : Int)).mono ?_
            rintro e w5 ⟨rfl, hm5⟩
            have HP5 := hid_ (HP.out.mod hm5)
            have HM6 := hid_ (HM.out.trans hm5 (fun _ _ => False.elim))
            clear hm5
            go_wp2_with fail
            refine (rreadP HP5.out (j : Int)).mono ?_
            rintro e w6 ⟨rfl, hm6⟩
            have HP6 := hid_ (HP5.out.mod hm6)
            have HM7 := hid_ (HM6.out.trans hm6 (fun _ _ => False.elim))
            clear hm6
            go_wp2
            go_roundw
            case rel => exact ⟨j + 1, by omega, by go_num, HP6.out, HM7.out⟩
            case measure => simp [intOf]; omega
          · go_wp2
            go_returns
            exact ⟨rfl, HM.out.below (Nat.le_refl _) (fun i hi h => absurd h (Nat.not_le.2 hi))⟩

end Go.Proofs.Ytbioeeccbcaljaa
