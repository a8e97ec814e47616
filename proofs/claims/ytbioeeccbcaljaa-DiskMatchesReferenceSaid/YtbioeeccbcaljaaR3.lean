/- The reference disk: Fail, count. -/
import Derived.Test.YtbioeeccbcaljaaR2
set_option linter.unusedVariables false
set_option linter.unusedSimpArgs false
namespace Go.Proofs.Ytbioeeccbcaljaa
open Go.RowKit

/-- The power is cut. -/
theorem GPost.cut {w W : World} {G : RF} {A : DK} {st' : List UInt8} (h : RefAt w G A) (h2 : RefAt W G { A with st := st' }) {W' : World} (hm : Mod G.has w W)
    (hb : Bk W' G.d 63 [G.sv A.n, .slice none 0 0, .bool false, .bool false, .int .i64 G.af, .int .i64 G.wr, .int .i64 G.by_]) (hm2 : Mod (fun k => k = G.d) W W') : GPost G w ⟨A.n, st', [], true, none⟩ W' := by
  refine ⟨⟨G.d, G.sb, G.sc, .slice none 0 0, G.af, G.wr, G.by_⟩, rfl, fun k hk => .inl (RF.again_has (.inr rfl) hk), ?_, hm.trans hm2 (fun i hi e => by subst e; exact .inl rfl)⟩
  refine h2.again (q' := []) (off' := true) (arm' := none) hb (.inr ⟨rfl, rfl⟩) (fun _ _ _ e => by cases e) ?_
  rintro k (rfl | hk)
  · exact hm2.block _ (h2.lt (.inr (.inl rfl))) h2.ne_sb
  · exact hm2.block _ (h2.lt (.inr (.inr hk))) (h2.ne_q hk).1

theorem Mod.three (w : World) (g : Nat) (a b c : Value) : Mod (fun k => k = g) w (((w.setCell ⟨g, 1, none⟩ a).setCell ⟨g, 2, none⟩ b).setCell ⟨g, 3, none⟩ c) :=
  (((Mod.refl (fun k => k = g) w).setCell (p := ⟨g, 1, none⟩) (fun _ => rfl) a).setCell (p := ⟨g, 2, none⟩) (fun _ => rfl) b).setCell (p := ⟨g, 3, none⟩) (fun _ => rfl) c

theorem torn_put {st : List UInt8} {n : Nat} (hl : st.length = n * 64) {p : Nat × ByteArray} (hp : p.1 < n ∧ p.2.size = 64) (k : Nat) (hk : k ≤ 64) {T : ByteArray} (hT : bts T = (bts p.2).take k ++ (secL st p.1).drop k) :
    splice st (p.1 * 64) ((bts p.2).take k) = put1 st (p.1, T) := by
  have hpl : (bts p.2).length = 64 := hp.2
  have hsl : (secL st p.1).length = 64 := by unfold secL; rw [List.length_take, List.length_drop, hl]; omega
  have hTl : (bts T).length = 64 := by rw [hT, List.length_append, List.length_take, List.length_drop]; omega
  unfold put1
  apply List.ext_getElem?
  intro j
  rw [splice_get (by rw [List.length_take, hl]; omega), splice_get (by show _ + (bts T).length ≤ _; rw [hTl, hl]; omega)]
  rw [List.length_take]
  show _ = if j < p.1 * 64 then st[j]? else if j < p.1 * 64 + (bts T).length then (bts T)[j - p.1 * 64]? else st[j]?
  rw [hTl]
  by_cases h1 : j < p.1 * 64
  · rw [if_pos h1, if_pos h1]
  · rw [if_neg h1, if_neg h1]
    by_cases h2 : j < p.1 * 64 + k
    · rw [if_pos (by omega), if_pos (by omega), hT, List.getElem?_append_left (by rw [List.length_take]; omega)]
    · rw [if_neg (by omega)]
      by_cases h3 : j < p.1 * 64 + 64
      · rw [if_pos h3, hT, List.getElem?_append_right (by rw [List.length_take]; omega), List.length_take, List.getElem?_drop, secL_get, if_pos (by omega)]
        congr 1; omega
      · rw [if_neg h3]

theorem DK.Ok.sec_size {A : DK} (h : A.Ok) {i : Nat} (hi : i < A.n) : (A.sec i).size = 64 := by
  show ((A.st.drop (i * 64)).take 64).toArray.size = 64
  have := h.len
  simp
  omega

set_option maxHeartbeats 2000000 in
theorem rfail_any {w : World} {G : RF} {A : DK} (h : RefAt w G A) (x y : Int) : Calls Try.prog 35 #[rptr G, .int .i64 x, .int .i64 y] w (RVPost G (A.cut x y) w) := by
  obtain ⟨c0, c1, c2, c3, c4, c5, c6, f0, f1, f2, f3, f4, f5, f6, hd⟩ := h.head.seven
  unfold RF.sv at c0
  have H := hid_ h
  have hfew := h.ok.few
  have htop := h.ok.top
  clear h
  cases ho : A.off with
  | true =>
    rw [ho] at c2
    simp only [Bool.not_true] at c2
    have HO := hid_ ho
    clear ho
    go_enter Try.func35, Try.ntmps35
    go_wp2
    go_returns
    rw [DK.cut, if_pos HO.out]
    exact ⟨rfl, .same H.out (by first | exact Mod.refl _ _ | exact (Mod.refl _ _).alloc _)⟩
  | false =>
    rw [ho] at c2
    simp only [Bool.not_false] at c2
    have HO := hid_ ho
    clear ho
    obtain ⟨m, hm⟩ : ∃ m, m = A.q.length := ⟨_, rfl⟩
    have hform : ∃ ao cap, G.pv = .slice ao m cap := by
      rcases H.out.queue.2 with ⟨hv, hn⟩ | ⟨g, cap, cur, hv, _⟩
      · exact ⟨none, 0, by rw [hv, hm, hn]⟩
      · exact ⟨_, cap, by rw [hv, hm]⟩
    obtain ⟨ao, cap, hform⟩ := hform
    rw [hform] at c1
    have HF := hid_ hform
    have HM := hid_ hm
    rw [← hm] at hfew
    clear hform hm
    obtain ⟨mn, hmn⟩ : ∃ mn : Int, (if (m : Int) < x then (m : Int) else x) = mn := ⟨_, rfl⟩
    obtain ⟨n, hn⟩ : ∃ n, n = clampN x m := ⟨_, rfl⟩
    have hmx : (if 0 < mn then mn else 0) = (n : Int) := by
      rw [hn, ← hmn]; unfold clampN; split <;> split <;> omega
    have hnl : n ≤ m := by rw [hn]; exact Nat.min_le_right _ _
    have HNN := hid_ hn
    clear hn
    go_enter Try.func35, Try.ntmps35
    go_wp2_with fail
    refine (rsettle_any H.out n (by rw [← HM.out]; exact hnl)).mono ?_
    rintro e w1 ⟨rfl, hr1, hm1⟩
    have HR := hid_ hr1
    have HM1 := hid_ (hm1.mono (S' := G.has) (fun _ _ e => .inr (.inl e)))
    clear c0 c1 c2 c3 c4 c5 c6 f0 f1 f2 f3 f4 f5 f6 hd hr1 hm1 hmn hmx
    obtain ⟨c0, c1, c2, c3, c4, c5, c6, f0, f1, f2, f3, f4, f5, f6, hd⟩ := HR.out.head.seven
    unfold RF.sv at c0
    simp only [HO.out, Bool.not_false] at c0 c2 c3
    rw [HF.out] at c1
    by_cases hlt : n < m
    · obtain ⟨p, hp⟩ : ∃ p, A.q[n]? = some p := ⟨_, List.getElem?_eq_getElem (by rw [← HM.out]; exact hlt)⟩
      obtain ⟨g, cap', hpv, hg, d0, d1⟩ := HR.out.qrow (k := n) (p := p) hp
      rw [HF.out] at hpv
      simp only [← HM.out] at hpv
      injection hpv with e1 e2 e3
      subst e1
      subst e3
      have hit := H.out.ok.items p (List.mem_of_getElem? hp)
      have HIT := hid_ hit
      have HP := hid_ hp
      have a1 : (0 : Int) ≤ n := by omega
      have a2 : (n : Int) < m := by omega
      clear hp hit
      obtain ⟨my, hmy⟩ : ∃ my : Int, (if 64 < y then 64 else y) = my := ⟨_, rfl⟩
      obtain ⟨k, hk⟩ : ∃ k, k = clampN y 64 := ⟨_, rfl⟩
      have hmk : (if 0 < my then my else 0) = (k : Int) := by
        rw [hk, ← hmy]; unfold clampN; split <;> split <;> omega
      have hk64 : k ≤ 64 := by rw [hk]; exact Nat.min_le_right _ _
      have HK := hid_ hk
      clear hk
      obtain ⟨S, hS⟩ : ∃ S : ByteArray, S = ({ A with st := settleL A.st (A.q.take n) } : DK).sec p.1 := ⟨_, rfl⟩
      have hc := HR.out.srow.1 p.1 HIT.out.1
      rw [← hS] at hc
      have hSs : S.size = 64 := by rw [hS]; exact HR.out.ok.sec_size HIT.out.1
      have HSE := hid_ hS
      have hsl := HR.out.lt (.inr (.inl rfl))
      have b1 : (k : Int) ≤ p.2.size := by have := HIT.out.2; omega
      have b2 : (k : Int) ≤ S.size := by omega
      have b3 : p.2.size ≤ 64 := by have := HIT.out.2; omega
      have b4 : S.size ≤ 64 := by omega
      have b5 : (p.1 : Int) < A.n := by have := HIT.out.1; omega
      have b6 : (0 : Int) ≤ p.1 := by omega
      have b7 : (0 : Int) ≤ k := by omega
      have HSS := hid_ hSs
      clear hS hSs
      go_wp2_with fail
      · have hk0 : (0 : Int) < k := by omega
        clear hmy hmk
        refine still_tail 18 (by kernel_rfl) (by kernel_rfl) ?_
        simp only [List.take_succ_cons, List.take_zero, List.drop_succ_cons, List.drop_zero]
        have b8 : ¬ 9223372036854775807 < min k p.2.size + (S.size - k) := by omega
        repeat still_step
        refine wpStill_nil ?_
        have HR1 := hid_ (show RefAt ((w1.alloc (.cells #[.int .i64 (p.1 : Int), .string p.2] 72)).drew) G _ from HR.out.keep fun k hk => Below.heap_alloc _ _ _ (HR.out.lt hk))
        go_wp2_with fail
        refine (rset_any HR1.out p.1 HIT.out.1 _).mono ?_
        rintro e w2 ⟨rfl, hw2⟩
        have hT : bts (p.2.extract 0 k ++ S.extract k S.size) = (bts p.2).take k ++ (secL (settleL A.st (A.q.take n)) p.1).drop k := by
          have h1 : bts S = secL (settleL A.st (A.q.take n)) p.1 := by rw [HSE.out]; rfl
          have h2 : (bts S).length = S.size := rfl
          rw [← h1]
          simp [bts]
          rw [List.take_of_length_le]
          rw [List.length_drop]
          exact Nat.le_refl _
        have hput := torn_put (n := A.n) HR.out.ok.len HIT.out k hk64 hT
        have htorn : tornSt (settleL A.st (A.q.take n)) A.q n k = splice (settleL A.st (A.q.take n)) (p.1 * 64) ((bts p.2).take k) := by simp [tornSt, HP.out, show 0 < k by omega]
        have HTO := hid_ (htorn.trans hput)
        have hlen : (tornSt (settleL A.st (A.q.take n)) A.q n k).length = A.n * 64 := by
          rw [HTO.out]; exact put1_len HR.out.ok.len ⟨HIT.out.1, by
            have h3 := congrArg List.length hT
            rw [List.length_append, List.length_take, List.length_drop] at h3
            have h4 : (bts p.2).length = 64 := HIT.out.2
            have h5 : (secL (settleL A.st (A.q.take n)) p.1).length = 64 := by
              have := HSS.out
              rw [HSE.out] at this
              exact this
            have h6 : (bts (p.2.extract 0 k ++ S.extract k S.size)).length = (p.2.extract 0 k ++ S.extract k S.size).size := rfl
            show (p.2.extract 0 k ++ S.extract k S.size).size = 64
            omega⟩
        have HR2 := hid_ (HR1.out.stored (i := p.1) (t := p.2.extract 0 k ++ S.extract k S.size) (st' := tornSt (settleL A.st (A.q.take n)) A.q n k) HIT.out.1 hlen (by rw [HTO.out]; exact DK.secs_put1 (A := { A with st := settleL A.st (A.q.take n) }) HR.out.ok.len (p := (p.1, p.2.extract 0 k ++ S.extract k S.size)) ⟨HIT.out.1, by
            have h3 := congrArg List.length hT
            rw [List.length_append, List.length_take, List.length_drop] at h3
            have h4 : (bts p.2).length = 64 := HIT.out.2
            have h5 : (secL (settleL A.st (A.q.take n)) p.1).length = 64 := by
              have := HSS.out
              rw [HSE.out] at this
              exact this
            have h6 : (bts (p.2.extract 0 k ++ S.extract k S.size)).length = (p.2.extract 0 k ++ S.extract k S.size).size := rfl
            show (p.2.extract 0 k ++ S.extract k S.size).size = 64
            omega⟩))
        rw [← hw2] at HR2
        have HM2 := hid_ (show Mod G.has w w2 by rw [hw2]; exact ((HM1.out.alloc _).drew).setCell (fun _ => .inr (.inl rfl)) _)
        clear hT hput htorn hlen HTO hw2 c0 c1 c2 c3 c4 c5 c6 f0 f1 f2 f3 f4 f5 f6 hd d0 d1 hc b1 b2 b3 b4 b5 b6 b7 b8 hg hsl
        obtain ⟨c0, c1, c2, c3, c4, c5, c6, f0, f1, f2, f3, f4, f5, f6, hd⟩ := HR2.out.head.seven
        go_wp2
        go_returns
        refine ⟨rfl, ?_⟩
        rw [DK.cut, if_neg (by rw [HO.out]; simp), ← HM.out, ← HNN.out, ← HK.out]
        exact GPost.cut H.out HR2.out HM2.out (((HR2.out.head.set 1 (.slice none 0 0)).set 2 (.bool false)).set 3 (.bool false)) (Mod.three _ _ _ _ _)
      · have hk0 : ¬ 0 < k := by omega
        go_returns
        refine ⟨rfl, ?_⟩
        rw [DK.cut, if_neg (by rw [HO.out]; simp), ← HM.out, ← HNN.out, ← HK.out]
        rw [show tornSt (settleL A.st (A.q.take n)) A.q n k = settleL A.st (A.q.take n) by simp [tornSt, HP.out, hk0]]
        exact GPost.cut H.out HR.out HM1.out ((((HR.out.head.set 1 (.slice none 0 0)).set 2 (.bool false)).set 3 (.bool false)).alloc _) ((Mod.three _ _ _ _ _).alloc _)
    · have hne : n = m := by omega
      go_wp2
      go_returns
      refine ⟨rfl, ?_⟩
      rw [DK.cut, if_neg (by rw [HO.out]; simp), ← HM.out, ← HNN.out]
      have hno : A.q[n]? = none := List.getElem?_eq_none (by rw [← HM.out]; omega)
      rw [show tornSt (settleL A.st (A.q.take n)) A.q n (clampN y 64) = settleL A.st (A.q.take n) by simp [tornSt, hno]]
      first
        | exact GPost.cut H.out HR.out HM1.out (((HR.out.head.set 1 (.slice none 0 0)).set 2 (.bool false)).set 3 (.bool false)) (Mod.three _ _ _ _ _)
        | exact GPost.cut H.out HR.out HM1.out ((((HR.out.head.set 1 (.slice none 0 0)).set 2 (.bool false)).set 3 (.bool false)).alloc _) ((Mod.three _ _ _ _ _).alloc _)

end Go.Proofs.Ytbioeeccbcaljaa
