/- The reference disk: count, Write, Sync. -/
import Derived.Test.YtbioeeccbcaljaaR3
set_option linter.unusedVariables false
set_option linter.unusedSimpArgs false
namespace Go.Proofs.Ytbioeeccbcaljaa
open Go.RowKit

set_option maxHeartbeats 1000000 in
theorem rcount_any {w : World} {G : RF} {A : DK} (h : RefAt w G A) : Calls Try.prog 45 #[rptr G] w (RIPost G A.count w) := by
  obtain ⟨c0, c1, c2, c3, c4, c5, c6, f0, f1, f2, f3, f4, f5, f6, hd⟩ := h.head.seven
  have H := hid_ h
  cases ha : A.arm with
  | none =>
    rw [ha] at c3
    simp only [Option.isSome_none] at c3
    have HA := hid_ ha
    clear h ha
    go_enter Try.func45, Try.ntmps45
    go_wp2
    go_returns
    rw [show A.count = (0, A) by unfold DK.count; rw [HA.out]]
    exact ⟨rfl, GPost.same H.out (Mod.refl _ _)⟩
  | some r =>
    obtain ⟨a, x, y⟩ := r
    obtain ⟨e1, e2, e3⟩ := h.armed a x y ha
    have hlo := h.ok.lo a x y ha
    have hhi := h.ok.hi a x y ha
    rw [ha] at c3
    simp only [Option.isSome_some] at c3
    rw [e1] at c4
    rw [e2] at c5
    rw [e3] at c6
    have HA := hid_ ha
    have HE := hid_ (show G.af = a ∧ G.wr = x ∧ G.by_ = y from ⟨e1, e2, e3⟩)
    clear h ha e1 e2 e3
    by_cases hp : 0 < a
    · have hne : (a == 0) = false := beq_eq_false_iff_ne.2 (by omega)
      go_enter Try.func45, Try.ntmps45
      go_wp2
      go_returns
      rw [show A.count = (0, { A with arm := some (a - 1, x, y) }) by unfold DK.count; rw [HA.out]; simp [hp]]
      refine ⟨rfl, ⟨G.d, G.sb, G.sc, G.pv, a - 1, x, y⟩, rfl, fun k hk => .inl (RF.again_has (.inl rfl) hk), ?_, (Mod.refl _ _).setCell (fun _ => .inl rfl) _⟩
      have hb := H.out.head.set 4 (.int .i64 (a - 1))
      rw [HE.out.2.1, HE.out.2.2, HA.out] at hb
      refine H.out.again (q' := A.q) (off' := A.off) (arm' := some (a - 1, x, y)) hb (.inl ⟨rfl, rfl⟩) ?_ ?_
      · intro a' x' y' e
        cases e
        exact ⟨⟨rfl, rfl, rfl⟩, by omega, by omega⟩
      · rintro k (rfl | hk)
        · exact Below.heap_setCell _ _ _ _ H.out.ne_sb
        · exact Below.heap_setCell _ _ _ _ (H.out.ne_q hk).1
    · have h0 : a = 0 := by omega
      subst h0
      go_enter Try.func45, Try.ntmps45
      go_wp2_with fail
      refine still_tail 9 (by kernel_rfl) (by kernel_rfl) ?_
      simp only [List.take_succ_cons, List.take_zero, List.drop_succ_cons, List.drop_zero]
      repeat still_step
      refine wpStill_nil ?_
      go_wp2_with fail
      refine (rfail_any (A := A) (show RefAt w.drew G A from H.out.keep fun _ _ => rfl) x y).mono ?_
      rintro e w' ⟨rfl, hp'⟩
      have HP := hid_ hp'
      clear hp'
      go_wp2
      go_returns
      rw [show A.count = (22, A.cut x y) by unfold DK.count; rw [HA.out]; simp]
      exact ⟨rfl, GPost.trans rfl (fun _ h => .inl h) ((Mod.refl _ _).drew) HP.out⟩

set_option maxHeartbeats 1000000 in
theorem rsync_any {w : World} {G : RF} {A : DK} (h : RefAt w G A) : Calls Try.prog 34 #[rptr G] w (RIPost G A.sync w) := by
  obtain ⟨c0, c1, c2, c3, c4, c5, c6, f0, f1, f2, f3, f4, f5, f6, hd⟩ := h.head.seven
  have H := hid_ h
  cases ho : A.off with
  | true =>
    rw [ho] at c2
    simp only [Bool.not_true] at c2
    have HO := hid_ ho
    clear h ho
    go_enter Try.func34, Try.ntmps34
    go_wp2
    go_returns
    rw [show A.sync = (22, A) by rw [DK.sync, if_pos HO.out]]
    exact ⟨rfl, GPost.same H.out (Mod.refl _ _)⟩
  | false =>
    rw [ho] at c2
    simp only [Bool.not_false] at c2
    have HO := hid_ ho
    clear h ho
    go_enter Try.func34, Try.ntmps34
    go_wp2_with fail
    refine (rcount_any H.out).mono ?_
    rintro e w1 ⟨rfl, G1, hd1, hs1, hr1, hm1⟩
    have HR1 := hid_ hr1
    have HM1 := hid_ hm1
    have HS1 := hid_ hs1
    have HD1 := hid_ hd1
    obtain ⟨B, hB⟩ : ∃ B, B = A.count.2 := ⟨_, rfl⟩
    rw [← hB] at HR1
    have HB := hid_ hB
    clear c0 c1 c2 c3 c4 c5 c6 f0 f1 f2 f3 f4 f5 f6 hd hr1 hm1 hs1 hd1 hB
    rcases A.count_codes with hc | hc
    · rw [hc]
      have HC := hid_ hc
      clear hc
      obtain ⟨c0, c1, c2, c3, c4, c5, c6, f0, f1, f2, f3, f4, f5, f6, hd⟩ := HR1.out.head.seven
      rw [HD1.out] at c0 c1 c2 c3 c4 c5 c6 f0 f1 f2 f3 f4 f5 f6 hd
      obtain ⟨m, hm⟩ : ∃ m, m = B.q.length := ⟨_, rfl⟩
      have hform : ∃ ao cap, G1.pv = .slice ao m cap := by
        rcases HR1.out.queue.2 with ⟨hv, hn⟩ | ⟨g, cap, cur, hv, _⟩
        · exact ⟨none, 0, by rw [hv, hm, hn]⟩
        · exact ⟨_, cap, by rw [hv, hm]⟩
      obtain ⟨ao, cap, hform⟩ := hform
      rw [hform] at c1
      have hfew := HR1.out.ok.few
      rw [← hm] at hfew
      have HMQ := hid_ hm
      clear hform hm
      go_wp2_with fail
      have hcall := rsettle_any HR1.out m (by rw [HMQ.out]; exact Nat.le_refl _)
      rw [show rptr G1 = rptr G by unfold rptr; rw [HD1.out]] at hcall
      refine hcall.mono ?_
      rintro e w2 ⟨rfl, hr2, hm2⟩
      have HR2 := hid_ hr2
      have HM2 := hid_ (hm2.mono (S' := G1.has) (fun _ _ e => .inr (.inl e)))
      clear c0 c1 c2 c3 c4 c5 c6 f0 f1 f2 f3 f4 f5 f6 hd hr2 hm2 hcall
      obtain ⟨c0, c1, c2, c3, c4, c5, c6, f0, f1, f2, f3, f4, f5, f6, hd⟩ := HR2.out.head.seven
      rw [HD1.out] at c0 c1 c2 c3 c4 c5 c6 f0 f1 f2 f3 f4 f5 f6 hd
      go_wp2
      go_returns
      rw [show A.sync = (0, { B with st := settleL B.st (B.q.take m), q := [] }) by
        rw [DK.sync, if_neg (by rw [HO.out]; simp), if_pos HC.out, ← HB.out, HMQ.out, List.take_of_length_le (Nat.le_refl _)]]
      refine ⟨rfl, ?_⟩
      have hfin : GPost G1 w1 { B with st := settleL B.st (B.q.take m), q := [] } (w2.setCell ⟨G.d, 1, none⟩ (.slice none 0 0)) := by
        refine ⟨⟨G1.d, G1.sb, G1.sc, .slice none 0 0, G1.af, G1.wr, G1.by_⟩, rfl, fun k hk => .inl (RF.again_has (.inr rfl) hk), ?_, HM2.out.setCell (fun _ => .inl HD1.out.symm) _⟩
        refine HR2.out.again (q' := []) (off' := B.off) (arm' := B.arm) ?_ (.inr ⟨rfl, rfl⟩) ?_ ?_
        · rw [HD1.out]
          have hb := HR2.out.head
          rw [HD1.out] at hb
          exact hb.set 1 _
        · intro a x y e
          exact ⟨HR2.out.armed a x y e, HR2.out.ok.lo a x y e, HR2.out.ok.hi a x y e⟩
        · rintro k (rfl | hk)
          · exact Below.heap_setCell _ _ _ _ (by show _ ≠ G.d; rw [← HD1.out]; exact HR2.out.ne_sb)
          · exact Below.heap_setCell _ _ _ _ (by show _ ≠ G.d; rw [← HD1.out]; exact (HR2.out.ne_q hk).1)
      exact GPost.trans HD1.out HS1.out HM1.out hfin
    · rw [hc]
      have HC := hid_ hc
      clear hc
      go_wp2
      go_returns
      rw [show A.sync = A.count by rw [DK.sync, if_neg (by rw [HO.out]; simp), if_neg (by rw [HC.out]; simp)]]
      exact ⟨by rw [HC.out]; rfl, ⟨G1, HD1.out, HS1.out, by rw [← HB.out]; exact HR1.out, HM1.out⟩⟩

/-- One pending write more. -/
theorem RefAt.pushed {w W w2 : World} {G : RF} {A : DK} (h : RefAt w G A) {i : Nat} (hi : i < A.n) {t : ByteArray} (ht : t.size = 64) (hfew : A.q.length < 1000000) {gg cap : Nat}
    (hW : ∀ k, k < w.heap.size → W.heap[k]? = w.heap[k]?) (hWs : w.heap.size ≤ W.heap.size) (hgrow : W.grownBy w2 G.pv.ownBlock)
    (hown : w2.ownsRow 0 72 2 (.slice (some ⟨gg, 0, none⟩) (A.q.length + 1) cap) (A.q.length + 1) (pairCells A.q ++ [.int .i64 (i : Int), .string t])) :
    RefAt (w2.setCell ⟨G.d, 1, none⟩ (.slice (some ⟨gg, 0, none⟩) (A.q.length + 1) cap)) ⟨G.d, G.sb, G.sc, .slice (some ⟨gg, 0, none⟩) (A.q.length + 1) cap, G.af, G.wr, G.by_⟩ (A.push i t) := by
  have old : ∀ k, k < w.heap.size → G.pv.ownBlock ≠ some k → w2.heap[k]? = w.heap[k]? := fun k hk hn => (hgrow.block k (by omega) (Ne.symm hn)).trans (hW k hk)
  have hd2 : Bk w2 G.d 63 _ := (old _ h.head.lt (fun e => (h.ne_q e).1 rfl)).trans h.head
  have e : pairCells A.q ++ [.int .i64 (i : Int), .string t] = pairCells (A.push i t).q := by
    rw [DK.push, pairCells_append]; simp [pairCells]
  refine ⟨hd2.set 1 _, ?_, ?_, h.armed, ⟨h.ok.len, h.ok.pos, h.ok.top, ?_, ?_, h.ok.lo, h.ok.hi⟩⟩
  · refine own_keep h.stable fun k hk => ?_
    have hk' : G.sb = k := by injection hk
    subst hk'
    rw [Below.heap_setCell _ _ _ _ h.ne_sb]
    exact old _ (h.lt (.inr (.inl rfl))) (fun e => (h.ne_q e).2 rfl)
  · rw [e] at hown
    have : (A.push i t).q.length = A.q.length + 1 := by simp [DK.push]
    rw [this]
    exact own_keep hown fun k hk => Below.heap_setCell _ _ _ _ (own_ne hown hk hd2 (by decide))
  · intro p hp
    rcases List.mem_append.1 hp with hp | hp
    · exact h.ok.items p hp
    · simp at hp; subst hp; exact ⟨hi, ht⟩
  · simp [DK.push]; omega

theorem Try.info72 : (Try.prog.info? 72).map (fun i => (i.zero, i.size, i.bytes)) = some (some (.agg #[.int .i64 0, .string ⟨#[]⟩]), 2, 24) := by kernel_rfl

set_option maxHeartbeats 1000000 in
theorem rwrite_any {w : World} {G : RF} {A : DK} (h : RefAt w G A) (s : Int) (t : ByteArray) (hfew : A.q.length < 1000000) : Calls Try.prog 33 #[rptr G, .int .i64 s, .string t] w (RIPost G (A.write s t) w) := by
  obtain ⟨c0, c1, c2, c3, c4, c5, c6, f0, f1, f2, f3, f4, f5, f6, hd⟩ := h.head.seven
  unfold RF.sv at c0
  have H := hid_ h
  have htop := h.ok.top
  clear h c3 c4 c5 c6 f0 f2 f3 f4 f5 f6
  cases ho : A.off with
  | true =>
    rw [ho] at c2
    simp only [Bool.not_true] at c2
    have HO := hid_ ho
    clear ho
    go_enter Try.func33, Try.ntmps33
    go_wp2
    go_returns
    rw [DK.write, if_pos HO.out]
    exact ⟨rfl, .same H.out (Mod.refl _ _)⟩
  | false =>
    rw [ho] at c2
    simp only [Bool.not_false] at c2
    have HO := hid_ ho
    clear ho
    by_cases h1 : s < 0
    · go_enter Try.func33, Try.ntmps33
      go_wp2
      go_returns
      rw [DK.write, if_neg (by rw [HO.out]; simp), if_neg (by omega)]
      exact ⟨rfl, .same H.out (Mod.refl _ _)⟩
    by_cases h2 : (A.n : Int) ≤ s
    · go_enter Try.func33, Try.ntmps33
      go_wp2
      go_returns
      rw [DK.write, if_neg (by rw [HO.out]; simp), if_neg (by omega)]
      exact ⟨rfl, .same H.out (Mod.refl _ _)⟩
    by_cases ht : t.size = 64
    · have hne : ((t.size : Int) != 64) = false := by rw [ht]; rfl
      obtain ⟨i, rfl⟩ := Int.eq_ofNat_of_zero_le (Int.not_lt.1 h1)
      have hi : i < A.n := by omega
      rw [DK.write, if_neg (by rw [HO.out]; simp), if_pos (by omega), if_pos ht, Int.toNat_natCast]
      have HT := hid_ ht
      clear ht
      obtain ⟨i0, hi0, hz0, hz1, hz2⟩ := info_parts Try.info72
      have HI0 := hid_ hi0
      have HZ0 := hid_ hz0
      have HZ1 := hid_ hz1
      have HZ2 := hid_ hz2
      clear hi0 hz0 hz1 hz2
      go_enter Try.func33, Try.ntmps33
      have hdq : some G.d ≠ G.pv.ownBlock := fun e => (H.out.ne_q e.symm).1 rfl
      go_wp2_with (at_builtin; refine wpList_append_lies _ rfl (.tmp 34) (.tmp 38) 61 rfl 0 72 i0 _ 2 24 Try.underlying61 HI0.out HZ0.out HZ1.out HZ2.out rfl (by omega) G.pv A.q.length (pairCells A.q) rfl (H.out.queue.alloc _) ⟨w.heap.size, 0, none⟩ 1 1 [.int .i64 (i : Int), .string t] rfl rfl (World.news_of_block (cs := #[.int .i64 (i : Int), .string t]) (t := 72) (fr := (0, 0)) (heap_alloc_new w _)) (by simp [Value.oneCell']) (by omega) (by unfold maxLen; omega) (by omega) (by omega) (w.heap.size + 1) (by simp) ?_)
      intro gg cap w2 hown2 hgrow2 hat2 hlt2
      have c1' := (hgrow2.cell_far ⟨G.d, 1, none⟩ (by simp; omega) hdq).trans (show _ = some G.pv by simp [go_sem, c1, hd])
      have f1' := (hgrow2.frozen_far ⟨G.d, 1, none⟩ (by simp; omega) hdq).trans (show _ = false by simp [go_sem, f1, hd])
      have HR := hid_ (H.out.pushed hi HT.out hfew (fun k hk => Below.heap_alloc _ _ _ hk) (by simp) hgrow2 hown2)
      have HPP := hid_ (show ∀ (r : Int × DK) (w3 : World), GPost ⟨G.d, G.sb, G.sc, .slice (some ⟨gg, 0, none⟩) (A.q.length + 1) cap, G.af, G.wr, G.by_⟩ (w2.setCell ⟨G.d, 1, none⟩ (.slice (some ⟨gg, 0, none⟩) (A.q.length + 1) cap)) r.2 w3 → GPost G w r.2 w3 from by
        intro r w3 hp
        refine GPost.trans (G1 := ⟨G.d, G.sb, G.sc, .slice (some ⟨gg, 0, none⟩) (A.q.length + 1) cap, G.af, G.wr, G.by_⟩) rfl ?_ ?_ hp
        · rintro k (hk | hk | hk)
          · exact .inl (.inl hk)
          · exact .inl (.inr (.inl hk))
          · have hk' : gg = k := by simpa [Value.ownBlock] using hk
            subst hk'
            rcases hat2 with hat | hat
            · exact .inl (.inr (.inr hat))
            · exact .inr (by omega)
        · exact ((((Mod.refl _ _).alloc _)).grown hgrow2 (fun k hk _ => .inr (.inr hk))).setCell (fun _ => .inl rfl) _)
      clear hown2 hgrow2 hat2 hlt2 c0 c1 c2 f1
      go_wp2_with fail
      refine (rcount_any HR.out).mono ?_
      rintro e w3 ⟨rfl, hp⟩
      have HP3 := hid_ (HPP.out _ _ hp)
      clear hp
      go_wp2
      go_returns
      exact ⟨rfl, HP3.out⟩
    · have hne : ((t.size : Int) != 64) = true := by rw [bne_iff_ne]; omega
      go_enter Try.func33, Try.ntmps33
      go_wp2
      go_returns
      rw [DK.write, if_neg (by rw [HO.out]; simp), if_pos (by omega), if_neg ht]
      exact ⟨rfl, .same H.out (Mod.refl _ _)⟩

end Go.Proofs.Ytbioeeccbcaljaa
