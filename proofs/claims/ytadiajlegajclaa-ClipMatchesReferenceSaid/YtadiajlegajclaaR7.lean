/- The reference: Line. -/
import Derived.Test.YtadiajlegajclaaR6
import Derived.Test.YtadiajlegajclaaW7
set_option linter.unusedVariables false
set_option linter.unusedSimpArgs false
namespace Go.Proofs.Ytadiajlegajclaa
open Go.RowKit

theorem last_set {ls : List (List Pt)} {m : Nat} {g : List Pt} (h1 : ls.length = m + 1) (h2 : ls[m]? = some g) (x : List Pt) : ls.dropLast ++ [ls.getLastD [] ++ x] = ls.set m (g ++ x) := by
  have hl : ls.getLast? = some g := by rw [List.getLast?_eq_getElem?, h1]; exact h2
  obtain ⟨r, hr⟩ := List.getLast?_eq_some_iff.1 hl
  subst hr
  have hm : m = r.length := by simp at h1; omega
  subst hm
  rw [List.dropLast_concat, List.getLastD_eq_getLast?, List.getLast?_concat]
  simp

set_option maxRecDepth 100000 in
set_option maxHeartbeats 16000000 in
theorem rline_any {w : World} (A : Option Addr) (c n : Nat) (l : List Pt) (b : Bx) (hn : l.length = n) (hl : PtsAt w w.heap.size A l) (hm : n ≤ 1000) :
    Calls Try.prog 13 #[.slice A n c, bxV b] w fun e w' => ∃ v, e = .returned v ∧ PartsAt w' (fun _ => True) v (lineF l b) ∧ Mod Nothing w w' := by
  have HL := hid_ hl
  have HN := hid_ hn
  have CNR := hid_ (fun w' (hm' : Mod Nothing w w') => rnear_any w' A c n l hn ((hl.mod hm' (Nat.le_refl _) (fun _ _ => id)).mono hm'.size) (by omega))
  obtain ⟨i0, hi0, hz0, hz1, hz2⟩ := info_parts Try.info24
  have HI0 := hid_ hi0
  have HZ0 := hid_ hz0
  have HZ1 := hid_ hz1
  have HZ2 := hid_ hz2
  obtain ⟨j0, hj0, hy0, hy1, hy2⟩ := info_parts Try.info22
  have HJ0 := hid_ hj0
  have HY0 := hid_ hy0
  have HY1 := hid_ hy1
  have HY2 := hid_ hy2
  clear hl hn hi0 hz0 hz1 hz2 hj0 hy0 hy1 hy2
  have HBW := hid_ (Bk.new w 26 [.int .i64 b.lo.x, .int .i64 b.lo.y, .int .i64 b.hi.x, .int .i64 b.hi.y])
  have HM0 := hid_ ((Mod.refl Nothing w).alloc (.cells #[.int .i64 b.lo.x, .int .i64 b.lo.y, .int .i64 b.hi.x, .int .i64 b.hi.y] 26))
  obtain ⟨b0, b1, b2, b3, -, -, -, -, hbl⟩ := HBW.out.four
  go_enter Try.func13, Try.ntmps13
  go_wp2_with fail
  clear b0 b1 b2 b3 hbl
  refine (rproper_any b _).mono ?_
  rintro e wq ⟨rfl, hmq⟩
  have HMQ := hid_ (HM0.out.trans hmq (fun _ _ h => h))
  have HBQ := hid_ (hmq.bk HBW.out id)
  clear hmq HM0 HBW
  cases hbx : boxB b with
  | false =>
    go_wp2
    go_returns
    rw [show lineF l b = [] by unfold lineF propB; rw [hbx]; exact if_neg (by simp)]
    exact ⟨_, rfl, PartsAt.nil _ _, HMQ.out⟩
  | true =>
  have HBX := hid_ hbx
  clear hbx
  go_wp2_with fail
  refine (CNR.out _ HMQ.out).mono ?_
  rintro e w1 ⟨rfl, hm1⟩
  have HM1 := hid_ (HMQ.out.trans hm1 (fun _ _ h => h))
  have HB1 := hid_ (hm1.bk HBQ.out id)
  clear hm1 HMQ HBQ
  cases hnr : l.all nearB with
  | false =>
    go_wp2
    go_returns
    rw [show lineF l b = [] by unfold lineF propB; rw [HBX.out, hnr]; exact if_neg (by simp)]
    exact ⟨_, rfl, PartsAt.nil _ _, HM1.out⟩
  | true =>
  have hnear := List.all_eq_true.1 hnr
  have HBU := hid_ (boxB_up HBX.out)
  have HNB := hid_ (show PtNear b.lo ∧ PtNear b.hi from by
    have h := HBX.out
    unfold boxB at h
    simp only [Bool.and_eq_true] at h
    have h1 := nearB_iff.1 h.1.1
    have h2 := nearB_iff.1 h.1.2
    exact ⟨⟨⟨h1.1, h1.2.1⟩, h1.2.2.1, h1.2.2.2⟩, ⟨h2.1, h2.2.1⟩, h2.2.2.1, h2.2.2.2⟩)
  have HNEAR := hid_ (show ∀ p ∈ l, PtNear p from fun p hp => by have := nearB_iff.1 (hnear p hp); exact ⟨⟨this.1, this.2.1⟩, this.2.2.1, this.2.2.2⟩)
  have HE := hid_ (show longs (rawTo b l (n - 1)) = lineF l b from by rw [← HN.out]; exact rline_eq (by unfold propB; rw [HBX.out, hnr]; rfl))
  have HL0 := hid_ ((HL.out.mod HM1.out (Nat.le_refl _) (fun _ _ => id)).mono HM1.out.size)
  clear hnear hnr
  go_wp2_with fail
  go_loopw [5, 6] (fun v5 v6 wr => ∃ (k : Nat) (vs : List Value), k ≤ n - 1 ∧ v6 = .int .i64 ((k : Int) + 1) ∧ RawRow wr (From w1.heap.size) v5 vs (rawTo b l k) ∧ Mod Nothing w1 wr) (fun _ v6 _ => n - (intOf v6).toNat)
  case atStart => exact ⟨0, [], by omega, rfl, RawRow.nil _ _, Mod.refl _ _⟩
  case round =>
    obtain ⟨k, vs, hk, rfl, hrr, hmd⟩ := hrel
    have HRR := hid_ hrr
    have HMW := hid_ hmd
    have HBW := hid_ (hmd.bk HB1.out id)
    have HRL := hid_ (rawTo_len b l k)
    have HVN := hid_ (show vs.length ≤ 1000 from by rw [hrr.len]; have := rawTo_len b l k; omega)
    clear hrr hmd
    by_cases hlt : k + 1 < n
    · obtain ⟨p, hp⟩ : ∃ p, l[k]? = some p := ⟨_, List.getElem?_eq_getElem (by rw [HN.out]; omega)⟩
      obtain ⟨q, hq⟩ : ∃ q, l[k + 1]? = some q := ⟨_, List.getElem?_eq_getElem (by rw [HN.out]; omega)⟩
      obtain ⟨bb, off, hA, hbb0, p0, p1⟩ := (HL0.out.mod HMW.out (Nat.le_refl _) (fun _ _ => id)) k p hp
      obtain ⟨bb', off', hA', hbb', q0, q1⟩ := (HL0.out.mod HMW.out (Nat.le_refl _) (fun _ _ => id)) (k + 1) q hq
      rw [hA] at hA'
      simp only [Option.some.injEq, Addr.mk.injEq] at hA'
      obtain ⟨rfl, rfl, -⟩ := hA'
      have hbbwr : bb < wr.heap.size := Nat.lt_of_lt_of_le hbb0 HMW.out.size
      have HPO := hid_ (ptOf_get hp)
      have HQO := hid_ (ptOf_get hq)
      have HNP := hid_ (HNEAR.out p (List.mem_of_getElem? hp))
      have HNQ := hid_ (HNEAR.out q (List.mem_of_getElem? hq))
      obtain ⟨R1, R2, R3, hR⟩ : ∃ R1 R2 R3, rPiece p q b = (R1, R2, R3) := ⟨_, _, _, rfl⟩
      have CPC := hid_ (fun w' => rpiece_any p q b w' HNP.out HNQ.out HNB.out.1 HNB.out.2)
      rw [hR] at CPC
      unfold RPost at CPC
      dsimp only at CPC
      have HR := hid_ hR
      have HRT0 := hid_ (show rawTo b l (k + 1) = rawStep b (k + 1) (rawTo b l k) p q from by show rawStep b (k + 1) (rawTo b l k) (ptOf l k) (ptOf l (k + 1)) = _; rw [HPO.out, HQO.out])
      have v1 : ((k : Int) + 1).toNat = k + 1 := by omega
      have v2 : (k : Int) + 1 < n := by omega
      have v3 : (0 : Int) ≤ (k : Int) + 1 := by omega
      have v4 : (k : Int) < n := by omega
      have v5 : (0 : Int) ≤ (k : Int) := by omega
      have v7 : IntKind.i64.wrap (k : Int) = (k : Int) := IntWalk.i64_in _ (by omega)
      have v8 : IntKind.i64.wrap ((k : Int) + 1 - 1) = (k : Int) := by rw [show (k : Int) + 1 - 1 = (k : Int) by omega]; exact v7
      have v6 : IntKind.i64.wrap ((k : Int) + 1 + 1) = (k : Int) + 1 + 1 := IntWalk.i64_in _ (by omega)
      subst hA
      clear hp hq hbb0 hbb' hR
      go_wp2_with fail
      refine wp_region_ghost (0, 0) (fun γ => [.slice (some ⟨bb, off, none⟩) n c, .int .i64 ((k : Int) + 1), .int .i64 k, .pointer (some ⟨bb, off + k * 2, none⟩), ptV p, .slice (some ⟨bb, off, none⟩) n c, .int .i64 ((k : Int) + 1), .pointer (some ⟨bb, off + (k + 1) * 2, none⟩), ptV q, bxV b, .tuple #[ptV R1, ptV R2, .bool R3], .tuple #[ptV R1, ptV R2, .bool R3], ptV R1, ptV R2, .bool R3, .pointer (some ⟨γ.1, 0, none⟩), .pointer (some ⟨γ.2, 0, none⟩), undef, undef, .bool R3]) (New2 wr 24 (.int .i64 0) (.int .i64 0) 15 17 (.int .i64 R1.x) (.int .i64 R1.y) 16 18 (.int .i64 R2.x) (.int .i64 R2.y)) (by kernel_rfl) (by kernel_rfl)
        (fun γ => by simp only [putAll, Act.put, List.setIfInBounds_toArray, List.set_cons_zero, List.set_cons_succ]; rfl) (⟨(Mod.refl _ _).drew, fun h => by simp at h, fun h => by simp at h, fun h => by simp at h, fun h => by simp at h, fun h => by simp at h⟩) ?_ ?_
      · refine ⟨?_, ?_, ?_, ?_, ?_, ?_, ?_, ?_, ?_, ?_, ?_, ?_, ?_, ?_, ?_, ?_, ?_, ?_, ?_, ?_, trivial⟩
        · intro L γ w' hun hw hC
          refine step_yes rfl ?_
          have HC := hid_ hC
          clear hun hw hC
          go_simp
          exact turned γ rfl (HC.out.skip (n := 0) (by decide) (by decide) (by decide) (by decide) (Mod.refl _ _))
        · intro L γ w' hun hw hC
          refine step_yes rfl ?_
          have HC := hid_ hC
          clear hun hw hC
          go_simp
          exact turned γ rfl (HC.out.skip (n := 1) (by decide) (by decide) (by decide) (by decide) (Mod.refl _ _))
        · intro L γ w' hun hw hC
          refine step_yes rfl ?_
          have HC := hid_ hC
          clear hun hw hC
          go_simp
          exact turned γ rfl (HC.out.skip (n := 2) (by decide) (by decide) (by decide) (by decide) (Mod.refl _ _))
        · intro L γ w' hun hw hC
          refine step_yes rfl ?_
          have HC := hid_ hC
          clear hun hw hC
          go_simp
          exact turned γ rfl (HC.out.skip (n := 3) (by decide) (by decide) (by decide) (by decide) (Mod.refl _ _))
        · intro L γ w' hun hw hC
          refine step_yes rfl ?_
          have HC := hid_ hC
          have c0 := (HC.out.base.cell (p := ⟨bb, off + k * 2, none⟩) hbbwr id).trans p0
          have c1 := (HC.out.base.cell (p := ⟨bb, off + k * 2 + 1, none⟩) hbbwr id).trans p1
          clear hun hw hC
          go_simp
          exact turned γ rfl (HC.out.skip (n := 4) (by decide) (by decide) (by decide) (by decide) (Mod.refl _ _))
        · intro L γ w' hun hw hC
          refine step_yes rfl ?_
          have HC := hid_ hC
          clear hun hw hC
          go_simp
          exact turned γ rfl (HC.out.skip (n := 5) (by decide) (by decide) (by decide) (by decide) (Mod.refl _ _))
        · intro L γ w' hun hw hC
          refine step_yes rfl ?_
          have HC := hid_ hC
          clear hun hw hC
          go_simp
          exact turned γ rfl (HC.out.skip (n := 6) (by decide) (by decide) (by decide) (by decide) (Mod.refl _ _))
        · intro L γ w' hun hw hC
          refine step_yes rfl ?_
          have HC := hid_ hC
          clear hun hw hC
          go_simp
          exact turned γ rfl (HC.out.skip (n := 7) (by decide) (by decide) (by decide) (by decide) (Mod.refl _ _))
        · intro L γ w' hun hw hC
          refine step_yes rfl ?_
          have HC := hid_ hC
          have c0 := (HC.out.base.cell (p := ⟨bb, off + (k + 1) * 2, none⟩) hbbwr id).trans q0
          have c1 := (HC.out.base.cell (p := ⟨bb, off + (k + 1) * 2 + 1, none⟩) hbbwr id).trans q1
          clear hun hw hC
          go_simp
          exact turned γ rfl (HC.out.skip (n := 8) (by decide) (by decide) (by decide) (by decide) (Mod.refl _ _))
        · intro L γ w' hun hw hC
          refine step_yes rfl ?_
          have HC := hid_ hC
          obtain ⟨b0, b1, b2, b3, -, -, -, -, hbl⟩ := (HC.out.base.bk HBW.out id).four
          clear hun hw hC
          go_simp
          exact turned γ rfl (HC.out.skip (n := 9) (by decide) (by decide) (by decide) (by decide) (Mod.refl _ _))
        · intro L γ w' hun hw hC
          refine step_yes rfl ?_
          have HC := hid_ hC
          have CC := hid_ (CPC.out w')
          clear hun hw hC
          go_simp
          refine CC.out.mono ?_
          rintro e w3 ⟨rfl, hm⟩
          exact turned γ rfl (HC.out.skip (n := 10) (by decide) (by decide) (by decide) (by decide) hm)
        · intro L γ w' hun hw hC
          refine step_yes rfl ?_
          have HC := hid_ hC
          clear hun hw hC
          go_simp
          exact turned γ rfl (HC.out.skip (n := 11) (by decide) (by decide) (by decide) (by decide) (Mod.refl _ _))
        · intro L γ w' hun hw hC
          refine step_yes rfl ?_
          have HC := hid_ hC
          clear hun hw hC
          go_simp
          exact turned γ rfl (HC.out.skip (n := 12) (by decide) (by decide) (by decide) (by decide) (Mod.refl _ _))
        · intro L γ w' hun hw hC
          refine step_yes rfl ?_
          have HC := hid_ hC
          clear hun hw hC
          go_simp
          exact turned γ rfl (HC.out.skip (n := 13) (by decide) (by decide) (by decide) (by decide) (Mod.refl _ _))
        · intro L γ w' hun hw hC
          refine step_yes rfl ?_
          have HC := hid_ hC
          clear hun hw hC
          go_simp
          exact turned γ rfl (HC.out.skip (n := 14) (by decide) (by decide) (by decide) (by decide) (Mod.refl _ _))
        · intro L γ w' hun hw hC
          refine step_yes rfl ?_
          have HC := hid_ hC
          have HU := hid_ hun
          clear hun hw hC
          go_simp
          exact turned (w'.heap.size, γ.2) rfl (HC.out.new1 (by decide) (by decide) (by decide) HU.out)
        · intro L γ w' hun hw hC
          refine step_yes rfl ?_
          have HC := hid_ hC
          have HU := hid_ hun
          clear hun hw hC
          go_simp
          exact turned (γ.1, w'.heap.size) rfl (HC.out.new2 (by decide) (by decide) (by decide) HU.out)
        · intro L γ w' hun hw hC
          refine step_yes rfl ?_
          have hl : L.getD 15 false = true := hw ⟨15, .data⟩ (by simp) rfl
          have hb := (hC.one hl).2
          rw [getD_un hun] at hb
          obtain ⟨c0, c1, f0, f1, hlt0⟩ := hb.two
          have HC := hid_ hC
          have HU := hid_ hun
          have HLL := hid_ hl
          clear hun hw hC hl hb
          go_simp
          exact turned γ rfl (HC.out.put1 (by decide) (by decide) (by decide) HU.out HLL.out)
        · intro L γ w' hun hw hC
          refine step_yes rfl ?_
          have hl : L.getD 16 false = true := hw ⟨16, .data⟩ (by simp) rfl
          have hb := (hC.two hl).2
          rw [getD_un hun] at hb
          obtain ⟨c0, c1, f0, f1, hlt0⟩ := hb.two
          have HC := hid_ hC
          have HU := hid_ hun
          have HLL := hid_ hl
          clear hun hw hC hl hb
          go_simp
          exact turned γ rfl (HC.out.put2 (by decide) (by decide) (by decide) HU.out HLL.out)
        · intro L γ w' hun hw hC
          refine step_yes rfl ?_
          have HC := hid_ hC
          clear hun hw hC
          go_simp
          exact turned γ rfl (HC.out.skip (n := 19) (by decide) (by decide) (by decide) (by decide) (Mod.refl _ _))
      · intro L γ wa hall hC
        have hg1 := (hC.one (hall 15 (by decide))).2
        have hg2 := (hC.two (hall 16 (by decide))).2
        rw [if_pos (hall 17 (by decide))] at hg1
        rw [if_pos (hall 18 (by decide))] at hg2
        have HG1 := hid_ hg1
        have HG2 := hid_ hg2
        have hmY := hC.base
        obtain ⟨ga, gb⟩ := γ
        have HMW := hid_ (HMW.out.trans hmY (fun _ _ h => h))
        have HBW := hid_ (hmY.bk HBW.out id)
        have HRR := hid_ (HRR.out.mod hmY)
        obtain ⟨p0, p1⟩ : wa.cell? ⟨bb, off + k * 2, none⟩ = some (.int .i64 p.x) ∧ wa.cell? ⟨bb, off + k * 2 + 1, none⟩ = some (.int .i64 p.y) := ⟨(hmY.cell (p := ⟨bb, off + k * 2, none⟩) hbbwr id).trans p0, (hmY.cell (p := ⟨bb, off + k * 2 + 1, none⟩) hbbwr id).trans p1⟩
        have hbbwa : bb < wa.heap.size := Nat.lt_of_lt_of_le hbbwr hmY.size
        clear hmY hC hall hg1 hg2 q0 q1 CPC hbbwr
        cases R3 with
        | false =>
          have HRT := hid_ (show rawTo b l (k + 1) = rawTo b l k from by rw [HRT0.out]; unfold rawStep; rw [HR.out]; rfl)
          go_wp2
          go_roundw
          case rel => exact ⟨k + 1, vs, by omega, by go_num, by rw [HRT.out]; exact HRR.out, HMW.out⟩
          case measure => simp [intOf]; omega
        | true =>
          obtain ⟨A5, c5, hu5⟩ : ∃ A c, u5 = .slice A vs.length c := by
            rcases HRR.out.own.2 with ⟨h, h0⟩ | ⟨g, cap, cur, h, _⟩
            · exact ⟨none, 0, by rw [h, h0]⟩
            · exact ⟨_, _, h⟩
          have HU5 := hid_ hu5
          clear hu5
          by_cases hk0 : 0 < k
          · have w1' : decide ((1 : Int) < (k : Int) + 1) = true := decide_eq_true (by omega)
            have w2' : (1 : Int) < (k : Int) + 1 := by omega
            cases hin : inB p b with
            | true =>
              have HIN := hid_ hin
              have HRT := hid_ (show rawTo b l (k + 1) = (rawTo b l k).dropLast ++ [(rawTo b l k).getLastD [] ++ [R1, R2]] from by rw [HRT0.out]; unfold rawStep; rw [HR.out]; rw [if_pos rfl, if_pos ⟨by omega, HIN.out⟩])
              clear hin
              rw [HU5.out]
              go_wp2_with fail
              refine wp_region_stepsC [.int .i64 ((k : Int) + 1), .bool true, .bool true, .slice (some ⟨bb, off, none⟩) n c, .int .i64 ((k : Int) + 1), .int .i64 k, .pointer (some ⟨bb, off + k * 2, none⟩), ptV p, bxV b, .bool (inB p b), .bool (inB p b)] (Mod Nothing wa) (by kernel_rfl) (by kernel_rfl)
                (by simp only [putAll, Act.put, List.setIfInBounds_toArray, List.set_cons_zero, List.set_cons_succ]; rfl) ((Mod.refl _ _).drew) ?_ ?_
              · refine ⟨?_, ?_, ?_, ?_, ?_, ?_, ?_, ?_, ?_, ?_, ?_, trivial⟩
                · intro L w' hun hw hC
                  refine step_yes rfl ?_
                  have HC := hid_ hC
                  clear hun hw hC
                  go_simp
                  exact still rfl HC.out
                · intro L w' hun hw hC
                  refine step_yes rfl ?_
                  have HC := hid_ hC
                  clear hun hw hC
                  go_simp
                  exact still rfl HC.out
                · intro L w' hun hw hC
                  refine step_yes rfl ?_
                  have HC := hid_ hC
                  clear hun hw hC
                  go_simp
                  exact still rfl HC.out
                · intro L w' hun hw hC
                  refine step_yes rfl ?_
                  have HC := hid_ hC
                  clear hun hw hC
                  go_simp
                  exact still rfl HC.out
                · intro L w' hun hw hC
                  refine step_yes rfl ?_
                  have HC := hid_ hC
                  clear hun hw hC
                  go_simp
                  exact still rfl HC.out
                · intro L w' hun hw hC
                  refine step_yes rfl ?_
                  have HC := hid_ hC
                  clear hun hw hC
                  go_simp
                  exact still rfl HC.out
                · intro L w' hun hw hC
                  refine step_yes rfl ?_
                  have HC := hid_ hC
                  clear hun hw hC
                  go_simp
                  exact still rfl HC.out
                · intro L w' hun hw hC
                  refine step_yes rfl ?_
                  have HC := hid_ hC
                  have c0 := (HC.out.cell (p := ⟨bb, off + k * 2, none⟩) hbbwa id).trans p0
                  have c1 := (HC.out.cell (p := ⟨bb, off + k * 2 + 1, none⟩) hbbwa id).trans p1
                  clear hun hw hC
                  go_simp
                  exact still rfl HC.out
                · intro L w' hun hw hC
                  refine step_yes rfl ?_
                  have HC := hid_ hC
                  obtain ⟨b0, b1, b2, b3, -, -, -, -, hbl⟩ := (HC.out.bk HBW.out id).four
                  clear hun hw hC
                  go_simp
                  exact still rfl HC.out
                · intro L w' hun hw hC
                  refine step_yes rfl ?_
                  have HC := hid_ hC
                  clear hun hw hC
                  go_simp
                  refine (rin_any p b _).mono ?_
                  rintro e w3 ⟨rfl, hm⟩
                  exact still rfl (HC.out.trans hm (fun _ _ h => h))
                · intro L w' hun hw hC
                  refine step_yes rfl ?_
                  have HC := hid_ hC
                  clear hun hw hC
                  go_simp
                  exact still rfl HC.out
              · intro wz hmz
                have HMW := hid_ (HMW.out.trans hmz (fun _ _ h => h))
                have HRR := hid_ (HRR.out.mod hmz)
                have HG1 := hid_ (hmz.bk HG1.out id)
                have HG2 := hid_ (hmz.bk HG2.out id)
                clear hmz p0 p1 hbbwa
                rw [HIN.out]
                have hne := rawTo_ne HBU.out (l := l) (k := k) (by rw [HN.out]; omega) (by omega) (by rw [HPO.out]; exact HIN.out)
                obtain ⟨gO, cO, hv, hgOl, hcell⟩ := HRR.out.form hne
                rw [HU5.out] at hv
                injection hv with hv1 hv2 hv3
                subst hv1
                subst hv3
                obtain ⟨nv, hnv⟩ : ∃ nv, vs.length = nv + 1 := ⟨vs.length - 1, by have h1 := HRR.out.len; have : (rawTo b l k).length ≠ 0 := fun e => hne (List.eq_nil_of_length_eq_zero e); omega⟩
                obtain ⟨u, hu⟩ : ∃ u, vs[nv]? = some u := ⟨_, List.getElem?_eq_getElem (by omega)⟩
                obtain ⟨gl, hgl⟩ := HRR.out.elem hu
                obtain ⟨ho1, ho2, ho3⟩ := HRR.out.each nv u gl hu hgl
                have hglen : gl.length ≤ 2000 := Nat.le_trans (rawTo_each b l k gl (List.mem_of_getElem? hgl)) (by omega)
                obtain ⟨o0, o1⟩ := hcell nv u hu
                obtain ⟨A6, c6, hu6, _, _⟩ := ho1.form
                have HLS := hid_ (last_set (show (rawTo b l k).length = nv + 1 by rw [← HRR.out.len, hnv]) hgl [R1, R2])
                have HU := hid_ hu
                have HGL := hid_ hgl
                have HOO := hid_ ho1
                have HNV := hid_ hnv
                obtain ⟨ng, hng⟩ : ∃ ng, ng = gl.length := ⟨_, rfl⟩
                rw [← hng] at hu6 hglen
                have HNG := hid_ hng
                have HU6 := hid_ hu6
                rw [hu6] at o0
                obtain ⟨x0, x1, -, -, xl⟩ := HG1.out.two
                obtain ⟨y0, y1, -, -, yl⟩ := HG2.out.two
                have hvn := HVN.out
                have w3' : IntKind.i64.wrap ((vs.length : Int) - 1) = (nv : Int) := by rw [show (vs.length : Int) - 1 = (nv : Int) by omega]; exact IntWalk.i64_in _ (by omega)
                have w4' : (nv : Int) < (vs.length : Int) := by omega
                have w5' : (0 : Int) ≤ (nv : Int) := by omega
                have HL4 := hid_ (show ∀ W : World, Bk (W.alloc (.cells #[.int .i64 R1.x, .int .i64 R1.y, .int .i64 R2.x, .int .i64 R2.y] 24)) W.heap.size 24 [.int .i64 R1.x, .int .i64 R1.y, .int .i64 R2.x, .int .i64 R2.y] from fun W => Bk.new W 24 _)
                clear hne hcell hu hgl ho1 ho2 ho3 hnv hng hu6
                have hGood : ∃ Good : World → Value → Prop, Good = fun w2 v => ∃ (g cap : Nat) (W : World), v = .slice (some ⟨g, 0, none⟩) (ng + 2) cap ∧ Mod Nothing wz W ∧ W.grownBy w2 u.ownBlock ∧ (u.ownBlock = some g ∨ wz.heap.size ≤ g) ∧ OwnPts w2 v (gl ++ [R1, R2]) := ⟨_, rfl⟩
                obtain ⟨Good, hGood⟩ := hGood
                obtain ⟨Done, hDone⟩ : ∃ Done : World → Value → Prop, Done = fun w3 v => RawRow w3 (From w1.heap.size) u5 (vs.set nv v) ((rawTo b l k).set nv (gl ++ [R1, R2])) ∧ Mod Nothing w1 w3 := ⟨_, rfl⟩
                have HGood := hid_ hGood
                have HDone := hid_ hDone
                have hbx0 : gO < wz.heap.size := hgOl
                clear hGood hDone
                go_wp2_with fail
                refine wp_region_ghost (0, undef) (fun γ => [.slice (some ⟨gO, 0, none⟩) vs.length c5, .int .i64 vs.length, .int .i64 nv, .slice (some ⟨gO, 0, none⟩) vs.length c5, .int .i64 vs.length, .int .i64 nv, .pointer (some ⟨gO, nv, none⟩), .slice A6 ng c6, ptV R1, ptV R2, .slice (some ⟨γ.1, 0, none⟩) 2 2, γ.2, .pointer (some ⟨gO, nv, none⟩), undef]) (GrowC wz [.int .i64 R1.x, .int .i64 R1.y, .int .i64 R2.x, .int .i64 R2.y] Good Done) (by kernel_rfl) (by kernel_rfl)
                  (fun γ => by simp only [putAll, Act.put, List.setIfInBounds_toArray, List.set_cons_zero, List.set_cons_succ]; rfl) (GrowC.start wz _ Good Done _ _) ?_ ?_
                · refine ⟨?_, ?_, ?_, ?_, ?_, ?_, ?_, ?_, ?_, ?_, ?_, ?_, ?_, ?_, trivial⟩
                  · intro L γ w' hun hw hC
                    refine step_yes rfl ?_
                    have HC := hid_ hC
                    clear hun hw hC
                    go_simp
                    exact turned γ rfl (HC.out.skip (i := 0) (by decide) (by decide) (by decide))
                  · intro L γ w' hun hw hC
                    refine step_yes rfl ?_
                    have HC := hid_ hC
                    clear hun hw hC
                    go_simp
                    exact turned γ rfl (HC.out.skip (i := 1) (by decide) (by decide) (by decide))
                  · intro L γ w' hun hw hC
                    refine step_yes rfl ?_
                    have HC := hid_ hC
                    clear hun hw hC
                    go_simp
                    exact turned γ rfl (HC.out.skip (i := 2) (by decide) (by decide) (by decide))
                  · intro L γ w' hun hw hC
                    refine step_yes rfl ?_
                    have HC := hid_ hC
                    clear hun hw hC
                    go_simp
                    exact turned γ rfl (HC.out.skip (i := 3) (by decide) (by decide) (by decide))
                  · intro L γ w' hun hw hC
                    refine step_yes rfl ?_
                    have HC := hid_ hC
                    clear hun hw hC
                    go_simp
                    exact turned γ rfl (HC.out.skip (i := 4) (by decide) (by decide) (by decide))
                  · intro L γ w' hun hw hC
                    refine step_yes rfl ?_
                    have HC := hid_ hC
                    clear hun hw hC
                    go_simp
                    exact turned γ rfl (HC.out.skip (i := 5) (by decide) (by decide) (by decide))
                  · intro L γ w' hun hw hC
                    refine step_yes rfl ?_
                    have HC := hid_ hC
                    clear hun hw hC
                    go_simp
                    exact turned γ rfl (HC.out.skip (i := 6) (by decide) (by decide) (by decide))
                  · intro L γ w' hun hw hC
                    refine step_yes rfl ?_
                    have hm := (hC.pre (hC.un11 hC.o7 hun)).1
                    have c0 := (hm.cell (p := ⟨gO, nv, none⟩) hgOl id).trans o0
                    have HC := hid_ hC
                    clear hun hw hC hm
                    go_simp
                    exact turned γ rfl (HC.out.skip (i := 7) (by decide) (by decide) (by decide))
                  · intro L γ w' hun hw hC
                    refine step_yes rfl ?_
                    have hm := (hC.pre (hC.un11 (fun e => hC.p8 (hC.o10 e)) hun)).1
                    have c0 := (hm.cell (p := ⟨ga, 0, none⟩) xl id).trans x0
                    have c1 := (hm.cell (p := ⟨ga, 1, none⟩) xl id).trans x1
                    have HC := hid_ hC
                    clear hun hw hC hm
                    go_simp
                    exact turned γ rfl (HC.out.skip (i := 8) (by decide) (by decide) (by decide))
                  · intro L γ w' hun hw hC
                    refine step_yes rfl ?_
                    have hm := (hC.pre (hC.un11 (fun e => hC.p9 (hC.o10 e)) hun)).1
                    have c0 := (hm.cell (p := ⟨gb, 0, none⟩) yl id).trans y0
                    have c1 := (hm.cell (p := ⟨gb, 1, none⟩) yl id).trans y1
                    have HC := hid_ hC
                    clear hun hw hC hm
                    go_simp
                    exact turned γ rfl (HC.out.skip (i := 9) (by decide) (by decide) (by decide))
                  · intro L γ w' hun hw hC
                    refine step_yes rfl ?_
                    have HC := hid_ (hC.new hun (hw ⟨8, .data⟩ (by simp) rfl) (hw ⟨9, .data⟩ (by simp) rfl))
                    clear hun hw hC
                    go_simp
                    exact turned (w'.heap.size, γ.2) rfl HC.out
                  · intro L γ w' hun hw hC
                    refine step_yes rfl ?_
                    have h7 : L.getD 7 false = true := hw ⟨7, .data⟩ (by simp) rfl
                    have h10 : L.getD 10 false = true := hw ⟨10, .data⟩ (by simp) rfl
                    have hpre := hC.pre (getD_un hun)
                    have hbk := hpre.2 h10
                    have hown := own_keep HOO.out (fun k hk => hpre.1.block k (own_lt HOO.out hk) id)
                    rw [← HNG.out] at hown
                    refine wp_append_lies _ (.tmp 65) (.tmp 68) 22 rfl 0 24 i0 _ 2 16 Try.underlying22 HI0.out HZ0.out HZ1.out HZ2.out rfl (by decide) u ng (ptCells gl) (by rw [HU6.out]; rfl) hown ⟨γ.1, 0, none⟩ 2 2 (ptCells [R1, R2]) rfl rfl (World.news_of_block (cs := #[.int .i64 R1.x, .int .i64 R1.y, .int .i64 R2.x, .int .i64 R2.y]) (t := 24) (fr := (0, 0)) hbk) (ptCells_one _) (by decide) (by unfold maxLen; omega) (by omega) (Nat.zero_le _) _ rfl ?_
                    intro g cap w2 hown2 hgrow2 hat2 hlt2
                    refine turned (γ.1, .slice (some ⟨g, 0, none⟩) (ng + 2) cap) rfl (hC.app hun h7 h10 ?_)
                    rw [HGood.out]
                    refine ⟨g, cap, w', rfl, hpre.1, hgrow2, ?_, ?_⟩
                    · rcases hat2 with h | h
                      · exact .inl h
                      · exact .inr (by rw [h]; exact hpre.1.size)
                    · unfold OwnPts
                      rw [ptCells_append, List.length_append, ← HNG.out]
                      exact own_base hown2
                  · intro L γ w' hun hw hC
                    refine step_yes rfl ?_
                    have HC := hid_ hC
                    clear hun hw hC
                    go_simp
                    exact turned γ rfl (HC.out.skip (i := 12) (by decide) (by decide) (by decide))
                  · intro L γ w' hun hw hC
                    refine step_yes rfl ?_
                    have h11 : L.getD 11 false = true := hw ⟨11, .data⟩ (by simp) rfl
                    have hg := hC.mid h11 (getD_un hun)
                    have HC := hid_ hC
                    have HUN := hid_ hun
                    rw [HGood.out] at hg
                    obtain ⟨g, cap, W, hv, hW, hgrow, hat, hown⟩ := hg
                    obtain ⟨g1, v1⟩ := γ
                    dsimp only at hv hown
                    subst hv
                    obtain ⟨hrow, hmod⟩ := HRR.out.grow HU.out HGL.out hW hgrow hat (fun k hk => by have := HMW.out.size; unfold From; omega) (by rw [List.length_append, ← HNG.out]; rfl) hown HU5.out
                    have hne2 : u.ownBlock ≠ some gO := fun e => own_apart HOO.out HRR.out.own (by decide) e (by rw [HU5.out]; rfl)
                    have hkeep : w'.heap[gO]? = wz.heap[gO]? := (hgrow.block gO (Nat.lt_of_lt_of_le hgOl hW.size) (fun e => hne2 e.symm)).trans (hW.block gO hgOl id)
                    have s0 := (World.cell?_of_block (w := wz) (a := ⟨gO, nv, none⟩) hkeep).trans o0
                    have s1 := (World.frozen?_of_block (w := wz) (a := ⟨gO, nv, none⟩) hkeep).trans o1
                    have s2 : gO < w'.heap.size := Nat.lt_of_lt_of_le hgOl (Nat.le_trans hW.size hgrow.size)
                    have HF := hid_ (HC.out.store HUN.out h11 (show Done _ _ from by rw [HDone.out]; exact ⟨hrow, (HMW.out.mono (S' := From w1.heap.size) (fun _ _ e => e.elim)).trans hmod (fun _ _ e => e) |>.mono (fun k hk e => by unfold From at e; omega)⟩))
                    clear hun hw hC hW hgrow hat hown hrow hmod hne2 hkeep h11
                    go_simp
                    exact turned _ rfl HF.out
                · intro L γ w3 hall hC
                  have hd := hC.fin (hall 13 (by decide))
                  rw [HDone.out] at hd
                  obtain ⟨hrow, hmod⟩ := hd
                  have HRW := hid_ hrow
                  have HMX := hid_ hmod
                  clear hC hall hrow hmod x0 x1 xl y0 y1 yl o0 o1
                  rw [← HU5.out]
                  go_wp2
                  go_roundw
                  case rel => exact ⟨k + 1, _, by omega, by go_num, by rw [HRT.out, HLS.out]; exact HRW.out, HMX.out⟩
                  case measure => simp [intOf]; omega
            | false =>
              have HIN := hid_ hin
              have HRT := hid_ (show rawTo b l (k + 1) = rawTo b l k ++ [[R1, R2]] from by rw [HRT0.out]; unfold rawStep; rw [HR.out]; rw [if_pos rfl, if_neg (fun h => by have h2 := h.2; rw [HIN.out] at h2; cases h2)])
              clear hin
              rw [HU5.out]
              go_wp2_with fail
              refine wp_region_stepsC [.int .i64 ((k : Int) + 1), .bool true, .bool true, .slice (some ⟨bb, off, none⟩) n c, .int .i64 ((k : Int) + 1), .int .i64 k, .pointer (some ⟨bb, off + k * 2, none⟩), ptV p, bxV b, .bool (inB p b), .bool (inB p b)] (Mod Nothing wa) (by kernel_rfl) (by kernel_rfl)
                (by simp only [putAll, Act.put, List.setIfInBounds_toArray, List.set_cons_zero, List.set_cons_succ]; rfl) ((Mod.refl _ _).drew) ?_ ?_
              · refine ⟨?_, ?_, ?_, ?_, ?_, ?_, ?_, ?_, ?_, ?_, ?_, trivial⟩
                · intro L w' hun hw hC
                  refine step_yes rfl ?_
                  have HC := hid_ hC
                  clear hun hw hC
                  go_simp
                  exact still rfl HC.out
                · intro L w' hun hw hC
                  refine step_yes rfl ?_
                  have HC := hid_ hC
                  clear hun hw hC
                  go_simp
                  exact still rfl HC.out
                · intro L w' hun hw hC
                  refine step_yes rfl ?_
                  have HC := hid_ hC
                  clear hun hw hC
                  go_simp
                  exact still rfl HC.out
                · intro L w' hun hw hC
                  refine step_yes rfl ?_
                  have HC := hid_ hC
                  clear hun hw hC
                  go_simp
                  exact still rfl HC.out
                · intro L w' hun hw hC
                  refine step_yes rfl ?_
                  have HC := hid_ hC
                  clear hun hw hC
                  go_simp
                  exact still rfl HC.out
                · intro L w' hun hw hC
                  refine step_yes rfl ?_
                  have HC := hid_ hC
                  clear hun hw hC
                  go_simp
                  exact still rfl HC.out
                · intro L w' hun hw hC
                  refine step_yes rfl ?_
                  have HC := hid_ hC
                  clear hun hw hC
                  go_simp
                  exact still rfl HC.out
                · intro L w' hun hw hC
                  refine step_yes rfl ?_
                  have HC := hid_ hC
                  have c0 := (HC.out.cell (p := ⟨bb, off + k * 2, none⟩) hbbwa id).trans p0
                  have c1 := (HC.out.cell (p := ⟨bb, off + k * 2 + 1, none⟩) hbbwa id).trans p1
                  clear hun hw hC
                  go_simp
                  exact still rfl HC.out
                · intro L w' hun hw hC
                  refine step_yes rfl ?_
                  have HC := hid_ hC
                  obtain ⟨b0, b1, b2, b3, -, -, -, -, hbl⟩ := (HC.out.bk HBW.out id).four
                  clear hun hw hC
                  go_simp
                  exact still rfl HC.out
                · intro L w' hun hw hC
                  refine step_yes rfl ?_
                  have HC := hid_ hC
                  clear hun hw hC
                  go_simp
                  refine (rin_any p b _).mono ?_
                  rintro e w3 ⟨rfl, hm⟩
                  exact still rfl (HC.out.trans hm (fun _ _ h => h))
                · intro L w' hun hw hC
                  refine step_yes rfl ?_
                  have HC := hid_ hC
                  clear hun hw hC
                  go_simp
                  exact still rfl HC.out
              · intro wz hmz
                have HMW := hid_ (HMW.out.trans hmz (fun _ _ h => h))
                have HRR := hid_ (HRR.out.mod hmz)
                have HG1 := hid_ (hmz.bk HG1.out id)
                have HG2 := hid_ (hmz.bk HG2.out id)
                clear hmz p0 p1 hbbwa
                rw [HIN.out]
                obtain ⟨x0, x1, -, -, xl⟩ := HG1.out.two
                obtain ⟨y0, y1, -, -, yl⟩ := HG2.out.two
                have hown1 := HRR.out.own
                rw [HU5.out] at hown1
                have hvn := HVN.out
                have HL4 := hid_ (Bk.new wz 24 [.int .i64 R1.x, .int .i64 R1.y, .int .i64 R2.x, .int .i64 R2.y])
                have HNEW := hid_ (show ((wz.alloc (.cells #[.int .i64 R1.x, .int .i64 R1.y, .int .i64 R2.x, .int .i64 R2.y] 24)).alloc (.cells #[.slice (some ⟨wz.heap.size, 0, none⟩) 2 2] 22)).heap[wz.heap.size + 1]? = some (.cells #[.slice (some ⟨wz.heap.size, 0, none⟩) 2 2] 22 (0, 0)) by have h := heap_alloc_new (wz.alloc (.cells #[.int .i64 R1.x, .int .i64 R1.y, .int .i64 R2.x, .int .i64 R2.y] 24)) (.cells #[.slice (some ⟨wz.heap.size, 0, none⟩) 2 2] 22); simpa using h)
                have HOW1 := hid_ hown1
                clear hown1
                go_wp2_with (at_builtin; refine wpList_append_lies _ rfl (.tmp 71) (.tmp 75) 29 rfl 0 22 j0 _ 1 24 Try.underlying29 HJ0.out HY0.out HY1.out HY2.out rfl (by decide) _ vs.length vs rfl ((HOW1.out.alloc _).alloc _) ⟨wz.heap.size + 1, 0, none⟩ 1 1 [.slice (some ⟨wz.heap.size, 0, none⟩) 2 2] rfl rfl (World.news_of_block (cs := #[.slice (some ⟨wz.heap.size, 0, none⟩) 2 2]) (t := 22) (fr := (0, 0)) HNEW.out) (by simp [Value.oneCell']) (by decide) (by unfold maxLen; omega) (by omega) (by omega) (wz.heap.size + 1 + 1) (by simp) ?_)
                intro g cap w2 hown2 hgrow2 hat2 hlt2
                have hWm : Mod Nothing wz ((wz.alloc (.cells #[.int .i64 R1.x, .int .i64 R1.y, .int .i64 R2.x, .int .i64 R2.y] 24)).alloc (.cells #[.slice (some ⟨wz.heap.size, 0, none⟩) 2 2] 22)) := ((Mod.refl _ _).alloc _).alloc _
                have hou : OwnPts ((wz.alloc (.cells #[.int .i64 R1.x, .int .i64 R1.y, .int .i64 R2.x, .int .i64 R2.y] 24)).alloc (.cells #[.slice (some ⟨wz.heap.size, 0, none⟩) 2 2] 22)) (.slice (some ⟨wz.heap.size, 0, none⟩) 2 2) [R1, R2] :=
                  ⟨rfl, .inr ⟨wz.heap.size, 2, _, rfl, Nat.zero_le _, HL4.out.alloc _, Nat.le_refl _, by decide, rfl, rfl⟩⟩
                have hfresh : ∀ k, (Value.slice (some ⟨wz.heap.size, 0, none⟩) 2 2).ownBlock = some k → wz.heap.size ≤ k := fun k hk => by
                  have : wz.heap.size = k := by simpa [Value.ownBlock] using hk
                  omega
                have hat3 : (u5 : Value).ownBlock = some g ∨ g = ((wz.alloc (.cells #[.int .i64 R1.x, .int .i64 R1.y, .int .i64 R2.x, .int .i64 R2.y] 24)).alloc (.cells #[.slice (some ⟨wz.heap.size, 0, none⟩) 2 2] 22)).heap.size := by
                  rcases hat2 with h | h
                  · exact .inl (by rw [HU5.out]; exact h)
                  · exact .inr (by rw [h]; simp)
                have HRR2 := hid_ (HRR.out.push hou hfresh hWm (by rw [HU5.out]; exact hgrow2) hat3 (fun k hk => by have := HMW.out.size; unfold From; omega) hown2)
                have HM2 := hid_ ((HMW.out.trans hWm (fun _ _ h => h)).grown hgrow2 (fun k hk hl => absurd hl (by have := HRR.out.inS k (by rw [HU5.out]; exact hk); unfold From at this; omega)))
                clear hown2 hgrow2 hat2 hat3 hfresh hlt2 hWm hou x0 x1 xl y0 y1 yl
                go_wp2
                go_roundw
                case rel => exact ⟨k + 1, _, by omega, by go_num, by rw [HRT.out]; exact HRR2.out, HM2.out⟩
                case measure => simp [intOf]; omega
          · have w1' : decide ((1 : Int) < (k : Int) + 1) = false := decide_eq_false (by omega)
            have HRT := hid_ (show rawTo b l (k + 1) = rawTo b l k ++ [[R1, R2]] from by rw [HRT0.out]; unfold rawStep; rw [HR.out]; rw [if_pos rfl, if_neg (fun h => by omega)])
            rw [HU5.out]
            go_wp2_with fail
            refine wp_region_stepsC [.int .i64 ((k : Int) + 1), .bool false, .bool false, undef, undef, undef, undef, undef, undef, undef, .bool false] (Mod Nothing wa) (by kernel_rfl) (by kernel_rfl)
              (by simp only [putAll, Act.put, List.setIfInBounds_toArray, List.set_cons_zero, List.set_cons_succ]; rfl) ((Mod.refl _ _).drew) ?_ ?_
            · refine ⟨?_, ?_, ?_, ?_, ?_, ?_, ?_, ?_, ?_, ?_, ?_, trivial⟩
              · intro L w' hun hw hC
                refine step_yes rfl ?_
                have HC := hid_ hC
                clear hun hw hC
                go_simp
                exact still rfl HC.out
              · intro L w' hun hw hC
                refine step_yes rfl ?_
                have HC := hid_ hC
                clear hun hw hC
                go_simp
                exact still rfl HC.out
              · intro L w' hun hw hC
                refine step_yes rfl ?_
                have HC := hid_ hC
                clear hun hw hC
                go_simp
                exact still rfl HC.out
              · intro L w' hun hw hC
                exact step_no rfl (still rfl hC)
              · intro L w' hun hw hC
                exact step_no rfl (still rfl hC)
              · intro L w' hun hw hC
                exact step_no rfl (still rfl hC)
              · intro L w' hun hw hC
                exact step_no rfl (still rfl hC)
              · intro L w' hun hw hC
                exact step_no rfl (still rfl hC)
              · intro L w' hun hw hC
                exact step_no rfl (still rfl hC)
              · intro L w' hun hw hC
                exact step_no rfl (still rfl hC)
              · intro L w' hun hw hC
                refine step_yes rfl ?_
                have HC := hid_ hC
                clear hun hw hC
                go_simp
                exact still rfl HC.out
            · intro wz hmz
              have HMW := hid_ (HMW.out.trans hmz (fun _ _ h => h))
              have HRR := hid_ (HRR.out.mod hmz)
              have HG1 := hid_ (hmz.bk HG1.out id)
              have HG2 := hid_ (hmz.bk HG2.out id)
              clear hmz p0 p1 hbbwa
              obtain ⟨x0, x1, -, -, xl⟩ := HG1.out.two
              obtain ⟨y0, y1, -, -, yl⟩ := HG2.out.two
              have hown1 := HRR.out.own
              rw [HU5.out] at hown1
              have hvn := HVN.out
              have HL4 := hid_ (Bk.new wz 24 [.int .i64 R1.x, .int .i64 R1.y, .int .i64 R2.x, .int .i64 R2.y])
              have HNEW := hid_ (show ((wz.alloc (.cells #[.int .i64 R1.x, .int .i64 R1.y, .int .i64 R2.x, .int .i64 R2.y] 24)).alloc (.cells #[.slice (some ⟨wz.heap.size, 0, none⟩) 2 2] 22)).heap[wz.heap.size + 1]? = some (.cells #[.slice (some ⟨wz.heap.size, 0, none⟩) 2 2] 22 (0, 0)) by have h := heap_alloc_new (wz.alloc (.cells #[.int .i64 R1.x, .int .i64 R1.y, .int .i64 R2.x, .int .i64 R2.y] 24)) (.cells #[.slice (some ⟨wz.heap.size, 0, none⟩) 2 2] 22); simpa using h)
              have HOW1 := hid_ hown1
              clear hown1
              go_wp2_with (at_builtin; refine wpList_append_lies _ rfl (.tmp 71) (.tmp 75) 29 rfl 0 22 j0 _ 1 24 Try.underlying29 HJ0.out HY0.out HY1.out HY2.out rfl (by decide) _ vs.length vs rfl ((HOW1.out.alloc _).alloc _) ⟨wz.heap.size + 1, 0, none⟩ 1 1 [.slice (some ⟨wz.heap.size, 0, none⟩) 2 2] rfl rfl (World.news_of_block (cs := #[.slice (some ⟨wz.heap.size, 0, none⟩) 2 2]) (t := 22) (fr := (0, 0)) HNEW.out) (by simp [Value.oneCell']) (by decide) (by unfold maxLen; omega) (by omega) (by omega) (wz.heap.size + 1 + 1) (by simp) ?_)
              intro g cap w2 hown2 hgrow2 hat2 hlt2
              have hWm : Mod Nothing wz ((wz.alloc (.cells #[.int .i64 R1.x, .int .i64 R1.y, .int .i64 R2.x, .int .i64 R2.y] 24)).alloc (.cells #[.slice (some ⟨wz.heap.size, 0, none⟩) 2 2] 22)) := ((Mod.refl _ _).alloc _).alloc _
              have hou : OwnPts ((wz.alloc (.cells #[.int .i64 R1.x, .int .i64 R1.y, .int .i64 R2.x, .int .i64 R2.y] 24)).alloc (.cells #[.slice (some ⟨wz.heap.size, 0, none⟩) 2 2] 22)) (.slice (some ⟨wz.heap.size, 0, none⟩) 2 2) [R1, R2] :=
                ⟨rfl, .inr ⟨wz.heap.size, 2, _, rfl, Nat.zero_le _, HL4.out.alloc _, Nat.le_refl _, by decide, rfl, rfl⟩⟩
              have hfresh : ∀ k, (Value.slice (some ⟨wz.heap.size, 0, none⟩) 2 2).ownBlock = some k → wz.heap.size ≤ k := fun k hk => by
                have : wz.heap.size = k := by simpa [Value.ownBlock] using hk
                omega
              have hat3 : (u5 : Value).ownBlock = some g ∨ g = ((wz.alloc (.cells #[.int .i64 R1.x, .int .i64 R1.y, .int .i64 R2.x, .int .i64 R2.y] 24)).alloc (.cells #[.slice (some ⟨wz.heap.size, 0, none⟩) 2 2] 22)).heap.size := by
                rcases hat2 with h | h
                · exact .inl (by rw [HU5.out]; exact h)
                · exact .inr (by rw [h]; simp)
              have HRR2 := hid_ (HRR.out.push hou hfresh hWm (by rw [HU5.out]; exact hgrow2) hat3 (fun k hk => by have := HMW.out.size; unfold From; omega) hown2)
              have HM2 := hid_ ((HMW.out.trans hWm (fun _ _ h => h)).grown hgrow2 (fun k hk hl => absurd hl (by have := HRR.out.inS k (by rw [HU5.out]; exact hk); unfold From at this; omega)))
              clear hown2 hgrow2 hat2 hat3 hfresh hlt2 hWm hou x0 x1 xl y0 y1 yl
              go_wp2
              go_roundw
              case rel => exact ⟨k + 1, _, by omega, by go_num, by rw [HRT.out]; exact HRR2.out, HM2.out⟩
              case measure => simp [intOf]; omega
    · have hkn : k = n - 1 := by omega
      obtain ⟨A5, c5, hu5⟩ : ∃ A c, u5 = .slice A vs.length c := by
        rcases HRR.out.own.2 with ⟨h, h0⟩ | ⟨g, cap, cur, h, _⟩
        · exact ⟨none, 0, by rw [h, h0]⟩
        · exact ⟨_, _, h⟩
      have HU5 := hid_ hu5
      clear hu5
      rw [← hkn] at HE
      clear hkn
      have HEA := hid_ (rawTo_each b l k)
      obtain ⟨raw, hraw⟩ : ∃ raw, raw = rawTo b l k := ⟨_, rfl⟩
      rw [← hraw] at HE HRR HEA
      obtain ⟨w5, hw5⟩ : ∃ w5, w5 = wr := ⟨_, rfl⟩
      rw [← hw5] at HRR HMW ⊢
      have HVL := hid_ HVN.out
      clear hraw hw5 HBW HRL
      rw [HU5.out]
      go_wp2_with fail
      clear hlt
      go_loopw [11, 12] (fun vo vi wr => ∃ j : Nat, j ≤ vs.length ∧ vi = .int .i64 j ∧ PartsAt wr (fun _ => True) vo (longs (raw.take j)) ∧ (∀ g, vo.ownBlock = some g → w5.heap.size ≤ g) ∧ Mod Nothing w5 wr) (fun _ vi _ => vs.length - (intOf vi).toNat)
      case atStart => exact ⟨0, Nat.zero_le _, rfl, PartsAt.nil _ _, fun g hg => by simp [Value.ownBlock] at hg, Mod.refl _ _⟩
      case round =>
        obtain ⟨j, hj, rfl, hpa, hge, hmd⟩ := hrel
        have HPA := hid_ hpa
        have HGE := hid_ hge
        have HMJ := hid_ hmd
        have hvl := HVL.out
        clear hpa hge hmd
        by_cases hlt : j < vs.length
        · have hrj := HRR.out.mod HMJ.out
          have hne : raw ≠ [] := fun e => by have h := HRR.out.len; rw [e] at h; have h2 : vs.length = 0 := h; omega
          obtain ⟨gO, cO, hv, hgOl, hcell⟩ := hrj.form hne
          rw [HU5.out] at hv
          injection hv with hv1 hv2 hv3
          subst hv1
          subst hv3
          obtain ⟨u, hu⟩ : ∃ u, vs[j]? = some u := ⟨_, List.getElem?_eq_getElem hlt⟩
          obtain ⟨gl, hgl⟩ := hrj.elem hu
          obtain ⟨ho1, ho2, ho3⟩ := hrj.each j u gl hu hgl
          have hglen : gl.length ≤ 2000 := Nat.le_trans (HEA.out gl (List.mem_of_getElem? hgl)) (by omega)
          obtain ⟨o0, o1⟩ := hcell j u hu
          obtain ⟨A6, c6, hu6, hpts, _⟩ := ho1.form
          have HTK := hid_ (show longs (raw.take (j + 1)) = longs (raw.take j) ++ longs [gl] by rw [List.take_add_one, hgl]; exact longs_append _ _)
          obtain ⟨ng, hng⟩ : ∃ ng, gl.length = ng := ⟨_, rfl⟩
          rw [hng] at hu6 hglen
          have CDF := hid_ (different_any wr A6 c6 ng gl hng hpts (by omega))
          have HDL := hid_ (show (dd gl).length ≤ 2000 from Nat.le_trans (dd_len_le gl) (by omega))
          rw [hu6] at o0
          have v1 : (0 : Int) ≤ (j : Int) := by omega
          have v2 : (j : Int) < vs.length := by omega
          clear hrj hne hcell hu hgl ho1 ho2 ho3 hng hu6 hpts
          go_wp2_with fail
          refine CDF.out.mono ?_
          rintro e wd ⟨v, rfl, ho, hmd2⟩
          obtain ⟨Ad, cd, e2, _, _⟩ := ho.form
          obtain ⟨md, hmd3⟩ : ∃ md, (dd gl).length = md := ⟨_, rfl⟩
          rw [hmd3] at e2 HDL
          subst e2
          have HO := hid_ ho
          have HMD := hid_ (HMJ.out.trans hmd2 (fun _ _ h => h))
          have HPA2 := hid_ (HPA.out.mod hmd2 (fun _ _ => id))
          have HML := hid_ hmd3
          have hdl := HDL.out
          clear ho hmd2 hmd3 o0 o1
          by_cases h1 : 1 < md
          · obtain ⟨os, hos1, hos2, hos3, hos4⟩ := HPA2.out
            have hol : os.length ≤ 1000 := by
              rw [hos2]
              refine Nat.le_trans (List.length_filter_le _ _) ?_
              rw [List.length_map, List.length_take]
              omega
            have HOS1 := hid_ hos1
            have HOS2 := hid_ hos2
            have HOS3 := hid_ hos3
            have HOS4 := hid_ hos4
            have h1d : decide ((1 : Int) < md) = true := decide_eq_true (by omega)
            clear hos1 hos2 hos3 hos4
            go_wp2_with (at_builtin; refine wpList_append_lies _ rfl (.tmp 91) (.tmp 93) 29 rfl 0 22 j0 _ 1 24 Try.underlying29 HJ0.out HY0.out HY1.out HY2.out rfl (by decide) _ os.length os rfl (HOS1.out.alloc _) ⟨wd.heap.size, 0, none⟩ 1 1 [.slice Ad md cd] rfl rfl (World.news_of_block (cs := #[.slice Ad md cd]) (t := 22) (fr := (0, 0)) (heap_alloc_new _ _)) (by simp [Value.oneCell']) (by decide) (by unfold maxLen; omega) (by omega) (by omega) (wd.heap.size + 1) (by simp) ?_)
            intro g cap w2 hown2 hgrow2 hat2 hlt2
            have hp2 := PartsAt.push (S := fun _ => True) (u := .slice Ad md cd) (l := dd gl) HOS1.out HOS2.out HOS3.out HOS4.out HO.out (fun _ _ => trivial) ((Mod.refl Nothing wd).alloc (.cells #[.slice Ad md cd] 22)) hgrow2 (by rcases hat2 with h | h <;> simp [h]) (fun _ _ => trivial) hown2
            have HP2 := hid_ hp2
            have HM2 := hid_ ((HMD.out.alloc (.cells #[.slice Ad md cd] 22)).grown hgrow2 (fun k hk hl => absurd hl (by have := HGE.out k hk; omega)))
            have HG2 := hid_ (show ∀ x, (Value.slice (some ⟨g, 0, none⟩) (os.length + 1) cap).ownBlock = some x → w5.heap.size ≤ x from fun x hx => by
              have hgx : g = x := by simpa [Value.ownBlock] using hx
              subst hgx
              rcases hat2 with h | h
              · exact HGE.out _ h
              · have := HMD.out.size; omega)
            clear hown2 hgrow2 hat2 hlt2 hp2
            go_wp2
            go_roundw
            case rel => exact ⟨j + 1, by omega, by go_num, by rw [HTK.out, show longs [gl] = [dd gl] by unfold longs; simp [HML.out, h1]]; exact HP2.out, HG2.out, HM2.out⟩
            case measure => simp [intOf]; omega
          · have h1d : decide ((1 : Int) < md) = false := decide_eq_false (by omega)
            go_wp2
            go_roundw
            case rel => exact ⟨j + 1, by omega, by go_num, by rw [HTK.out, show longs [gl] = [] by unfold longs; simp [HML.out, h1], List.append_nil]; exact HPA2.out, HGE.out, HMD.out⟩
            case measure => simp [intOf]; omega
        · have hjn : j = vs.length := by omega
          have ht : raw.take j = raw := List.take_of_length_le (by rw [← HRR.out.len]; omega)
          rw [ht, HE.out] at HPA
          have HMF := hid_ (HM1.out.trans (HMW.out.trans HMJ.out (fun _ _ h => h)) (fun _ _ h => h))
          clear ht
          go_wp2
          go_returns
          exact ⟨_, rfl, HPA.out, HMF.out⟩
end Go.Proofs.Ytadiajlegajclaa
