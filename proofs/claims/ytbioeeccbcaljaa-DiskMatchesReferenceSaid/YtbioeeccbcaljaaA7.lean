/- (*Disk).count, Sync. -/
import Derived.Test.YtbioeeccbcaljaaA6
set_option linter.unusedVariables false
set_option linter.unusedSimpArgs false
namespace Go.Proofs.Ytbioeeccbcaljaa
open Go.RowKit

theorem fail_any {w : World} {F : DF} {A : DK} (h : DiskAt w F A) (x y : Int) : Calls Try.prog 25 #[dptr F, .int .i64 x, .int .i64 y] w (VPost F (A.cut x y) w) := by
  cases ho : A.off with
  | true => exact fail_off h ho x y
  | false => exact fail_on h ho x y

def DK.count (A : DK) : Int × DK :=
  match A.arm with
  | none => (0, A)
  | some (a, x, y) => if 0 < a then (0, { A with arm := some (a - 1, x, y) }) else (22, A.cut x y)

/-- A number comes back, and the disk is what it is then. -/
def IPost (F : DF) (r : Int × DK) (w : World) (e : Ending) (w' : World) : Prop := e = .returned (.int .i64 r.1) ∧ DPost F w r.2 w'

set_option maxHeartbeats 400000 in
theorem count_any {w : World} {F : DF} {A : DK} (h : DiskAt w F A) : Calls Try.prog 41 #[dptr F] w (IPost F A.count w) := by
  obtain ⟨c0, c1, c2, c3, f0, f1, f2, f3, hd⟩ := h.head.four
  cases ha : A.arm with
  | none =>
    have H := hid_ h
    rw [h.noarm ha] at c3
    simp only [armPtr, Option.map_none] at c3
    have HA := hid_ ha
    clear h ha
    go_enter Try.func41, Try.ntmps41
    go_wp2
    go_returns
    rw [show A.count = (0, A) by unfold DK.count; rw [HA.out]]
    exact ⟨rfl, DPost.same H.out (Mod.refl _ _)⟩
  | some r =>
    obtain ⟨a, x, y⟩ := r
    obtain ⟨g, hg, hb⟩ := h.armed a x y ha
    have hlo := h.ok.lo a x y ha
    have hhi := h.ok.hi a x y ha
    have hne := h.ne_a hg
    rw [hg] at c3
    simp only [armPtr, Option.map_some] at c3
    have H := hid_ h
    have HA := hid_ ha
    have HG := hid_ hg
    have HB := hid_ hb
    have HNE := hid_ hne
    obtain ⟨g0, g1, g2, e0, e1, e2, hgl⟩ := hb.three
    clear h ha hg hb hne
    by_cases hp : 0 < a
    · go_enter Try.func41, Try.ntmps41
      go_wp2
      go_returns
      rw [show A.count = (0, { A with arm := some (a - 1, x, y) }) by unfold DK.count; rw [HA.out]; simp [hp]]
      refine ⟨rfl, F, rfl, fun k hk => .inl hk, ?_, (Mod.refl _ _).setCell (fun _ => .inr (.inr (.inr HG.out))) _⟩
      have hb' := HB.out.set 0 (.int .i64 (a - 1))
      exact ⟨H.out.head.far (Ne.symm HNE.out.1) _, H.out.stable.far (Ne.symm HNE.out.2.1) _, own_keep H.out.queue fun k e => Below.heap_setCell _ _ _ _ (by rintro rfl; exact HNE.out.2.2 e),
        (fun e => by cases e), (fun a' x' y' e => by cases e; exact ⟨g, HG.out, hb'⟩),
        ⟨H.out.ok.len, H.out.ok.pos, H.out.ok.top, H.out.ok.items, H.out.ok.few, (fun a' x' y' e => by cases e; omega), (fun a' x' y' e => by cases e; omega)⟩⟩
    · go_enter Try.func41, Try.ntmps41
      go_wp2_with fail
      refine still_tail 15 (by kernel_rfl) (by kernel_rfl) ?_
      simp only [List.take_succ_cons, List.take_zero, List.drop_succ_cons, List.drop_zero]
      repeat still_step
      refine wpStill_nil ?_
      go_wp2_with fail
      refine (fail_any (A := A) (show DiskAt w.drew F A from H.out.keep fun _ _ => rfl) x y).mono ?_
      rintro e w' ⟨rfl, hp'⟩
      have HP := hid_ hp'
      clear hp'
      go_wp2
      go_returns
      rw [show A.count = (22, A.cut x y) by unfold DK.count; rw [HA.out]; simp [hp]]
      exact ⟨rfl, DPost.trans rfl (fun _ h => .inl h) ((Mod.refl _ _).drew) HP.out⟩

def DK.sync (A : DK) : Int × DK :=
  if A.off then (22, A) else
    if A.count.1 = 0 then (0, { A.count.2 with st := settleL A.count.2.st A.count.2.q, q := [] }) else A.count

theorem sync_nil (w : World) : Calls Try.prog 21 #[.pointer none] w fun e w' => e = .returned (.int .i64 1) ∧ w' = w := by
  go_enter Try.func21, Try.ntmps21
  go_wp2
  go_returns
  exact ⟨rfl, rfl⟩

theorem DK.count_codes (A : DK) : A.count.1 = 0 ∨ A.count.1 = 22 := by
  unfold DK.count
  split
  · exact .inl rfl
  · split
    · exact .inl rfl
    · exact .inr rfl

set_option maxHeartbeats 1000000 in
theorem sync_any {w : World} {F : DF} {A : DK} (h : DiskAt w F A) : Calls Try.prog 21 #[dptr F] w (IPost F A.sync w) := by
  obtain ⟨c0, c1, c2, c3, f0, f1, f2, f3, hd⟩ := h.head.four
  have H := hid_ h
  cases ho : A.off with
  | true =>
    rw [ho] at c2
    have HO := hid_ ho
    clear h ho
    go_enter Try.func21, Try.ntmps21
    go_wp2
    go_returns
    rw [show A.sync = (22, A) by rw [DK.sync, if_pos HO.out]]
    exact ⟨rfl, DPost.same H.out (Mod.refl _ _)⟩
  | false =>
    rw [ho] at c2
    have HO := hid_ ho
    clear h ho
    have hcc := A.count_codes
    obtain ⟨r, hr⟩ : ∃ r, r = A.count := ⟨_, rfl⟩
    rw [← hr] at hcc
    have HR := hid_ hr
    clear hr
    obtain ⟨ec, A1⟩ := r
    rcases hcc with hec | hec
    · simp only at hec
      subst hec
      go_enter Try.func21, Try.ntmps21
      go_wp2_with fail
      refine (count_any H.out).mono ?_
      rw [← HR.out]
      rintro e w1 ⟨rfl, F1, hF1, hs1, hd1, hm1⟩
      have HF1 := hid_ hF1
      have HS1 := hid_ hs1
      have HM1 := hid_ hm1
      have HD1 := hid_ hd1
      obtain ⟨ao, cap, hqv, hcap, hnone, hsome, hrow⟩ := hd1.qform
      have HQ := hid_ hqv
      have HW := hid_ hrow
      clear c0 c1 c2 c3 f0 f1 f2 f3 hd
      obtain ⟨c0, c1, c2, c3, f0, f1, f2, f3, hd⟩ := hd1.head.four
      rw [hqv] at c1
      rw [hF1] at c0 c1 c2 c3 f0 f1 f2 f3 hd
      clear hF1 hs1 hm1 hd1 hqv hrow hnone hsome
      go_wp2_with fail
      have hdh : Bk w1 F.d 60 [.slice (some ⟨F1.sb, 0, none⟩) (A1.n * 64) (A1.n * 64), F1.qv, .bool A1.off, armPtr F1.av] := by rw [← HF1.out]; exact HD1.out.head
      have hq := HW.out A1.q.length
      rw [List.take_of_length_le (Nat.le_refl _)] at hq
      have hfit : ∀ p ∈ A1.q, p.1 * 64 + 64 ≤ A1.n * 64 ∧ p.2.size = 64 := fun p hp => by have := HD1.out.ok.items p hp; omega
      refine (settle_any F.d F1.sb (A1.n * 64) A1.q.length cap ao _ _ _ A1.st A1.q w1 hdh HD1.out.stable HD1.out.ok.len (by have := HD1.out.ok.top; omega) hq rfl HD1.out.ok.few hfit).mono ?_
      rintro e w2 ⟨rfl, hs2, hm2⟩
      have hds : F.d ≠ F1.sb := by rw [← HF1.out]; exact HD1.out.ne_sb
      have hdh2 := hm2.bk hdh hds
      have HDH2 := hid_ hdh2
      have HS2 := hid_ hs2
      have HM2 := hid_ hm2
      have HFIT := hid_ hfit
      clear c0 c1 c2 c3 f0 f1 f2 f3 hd hdh hq hs2 hm2 hfit
      obtain ⟨c0, c1, c2, c3, f0, f1, f2, f3, hd⟩ := hdh2.four
      clear hdh2
      go_wp2
      go_returns
      rw [show A.sync = (0, { A1 with st := settleL A1.st A1.q, q := [] }) by rw [DK.sync, HO.out, ← HR.out]; rfl]
      refine ⟨rfl, DPost.trans HF1.out HS1.out HM1.out ⟨⟨F1.d, F1.sb, .slice none 0 0, F1.av⟩, rfl, fun k hk => .inl (DF.again_has (.inr rfl) (.inl rfl) hk), ?_, ?_⟩⟩
      · refine HD1.out.again (HS2.out.far (Ne.symm hds) _) ?_ (.inr ⟨rfl, rfl⟩) (.inl ⟨rfl, rfl⟩) ?_ ?_
        · rw [settleL_length, HD1.out.ok.len]
          intro p hp
          have := HFIT.out p hp
          rw [HD1.out.ok.len]; omega
        · rw [HF1.out]; exact HDH2.out.set 1 _
        · rintro k (hk | hk)
          · have hne := HD1.out.ne_q hk
            rw [Below.heap_setCell _ _ _ _ (by rw [← HF1.out]; exact hne.1), HM2.out.block k (own_lt HD1.out.queue hk) hne.2]
          · have hne := HD1.out.ne_a hk
            rw [Below.heap_setCell _ _ _ _ (by rw [← HF1.out]; exact hne.1), HM2.out.block k (HD1.out.lt (.inr (.inr (.inr hk)))) hne.2.1]
      · exact (HM2.out.mono (fun _ _ e => .inr (.inl e))).setCell (fun _ => .inl HF1.out.symm) _
    · simp only at hec
      subst hec
      go_enter Try.func21, Try.ntmps21
      go_wp2_with fail
      refine (count_any H.out).mono ?_
      rw [← HR.out]
      rintro e w1 ⟨rfl, hp1⟩
      have HP1 := hid_ hp1
      clear hp1
      go_wp2
      go_returns
      rw [show A.sync = (22, A1) by rw [DK.sync, HO.out, ← HR.out]; rfl]
      exact ⟨rfl, HP1.out⟩

end Go.Proofs.Ytbioeeccbcaljaa
