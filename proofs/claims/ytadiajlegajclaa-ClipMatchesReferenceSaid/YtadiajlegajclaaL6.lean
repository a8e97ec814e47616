/- Proper, Different, Around. -/
import Derived.Test.YtadiajlegajclaaP6
set_option linter.unusedVariables false
set_option linter.unusedSimpArgs false
namespace Go.Proofs.Ytadiajlegajclaa
open Go.RowKit

theorem rproper_any (b : Bx) (w : World) : Calls Try.prog 19 #[bxV b] w (BPost (boxB b) w) := by
  have HB := hid_ (Bk.new w 26 [.int .i64 b.lo.x, .int .i64 b.lo.y, .int .i64 b.hi.x, .int .i64 b.hi.y])
  have HM0 := hid_ ((Mod.refl Nothing w).alloc (.cells #[.int .i64 b.lo.x, .int .i64 b.lo.y, .int .i64 b.hi.x, .int .i64 b.hi.y] 26))
  go_enter Try.func19, Try.ntmps19
  go_wp2_with fail
  refine (ris_any b.lo _).mono ?_
  rintro e w1 ⟨rfl, hm1⟩
  have HM1 := hid_ (HM0.out.trans hm1 (fun _ _ h => h))
  have HB1 := hid_ (hm1.bk HB.out id)
  clear hm1
  obtain ⟨b0, b1, b2, b3, -, -, -, -, hbl⟩ := HB1.out.four
  cases h1 : nearB b.lo
  · go_wp2
    go_returns
    exact ⟨ret_bool (by unfold boxB; rw [h1]; rfl), HM1.out⟩
  · have HN1 := hid_ h1
    clear h1
    go_wp2_with fail
    refine (ris_any b.hi _).mono ?_
    rintro e w2 ⟨rfl, hm2⟩
    have HM2 := hid_ (HM1.out.trans hm2 (fun _ _ h => h))
    have HB2 := hid_ (hm2.bk HB1.out id)
    clear hm2 b0 b1 b2 b3 hbl
    obtain ⟨b0, b1, b2, b3, -, -, -, -, hbl⟩ := HB2.out.four
    cases h2 : nearB b.hi
    · go_wp2
      go_returns
      exact ⟨ret_bool (by unfold boxB; rw [HN1.out, h2]; rfl), HM2.out⟩
    · have HN2 := hid_ h2
      clear h2
      go_wp2
      all_goals
        go_returns
        refine ⟨ret_bool ?_, HM2.out⟩
        unfold boxB
        rw [HN1.out, HN2.out, Bool.eq_iff_iff]
        simp only [Bool.and_eq_true, Bool.and_true, Bool.true_and, decide_eq_true_eq, Bool.false_eq_true, false_iff, true_and]
        omega

set_option maxRecDepth 100000 in
set_option maxHeartbeats 8000000 in
theorem different_any (w : World) (A : Option Addr) (c n : Nat) (l : List Pt) (hn : l.length = n) (hl : PtsAt w w.heap.size A l) (hm : n ≤ 100000) :
    Calls Try.prog 21 #[.slice A n c] w fun e w' => ∃ v, e = .returned v ∧ OwnPts w' v (dd l) ∧ Mod Nothing w w' := by
  have HL := hid_ hl
  have HN := hid_ hn
  have heq := run_pt_eq
  obtain ⟨i0, hi0, hz0, hz1, hz2⟩ := info_parts Try.info24
  have HI0 := hid_ hi0
  have HZ0 := hid_ hz0
  have HZ1 := hid_ hz1
  have HZ2 := hid_ hz2
  clear hl hn hi0 hz0 hz1 hz2
  go_enter Try.func21, Try.ntmps21
  go_wp2_with fail
  go_loopw [3, 4] (fun v i wr => ∃ k : Nat, k ≤ n ∧ i = .int .i64 k ∧ wr.ownsRow w.heap.size 24 2 v (dd (l.take k)).length (ptCells (dd (l.take k))) ∧ Mod Nothing w wr) (fun _ i _ => n - (intOf i).toNat)
  case atStart => exact ⟨0, Nat.zero_le _, rfl, World.ownsRow_nil _ _ _ _, Mod.refl _ _⟩
  case round =>
    obtain ⟨k, hk, rfl, hown, hmd⟩ := hrel
    have HO := hid_ hown
    have HM := hid_ hmd
    clear hown hmd
    by_cases hlt : k < n
    · obtain ⟨p, hp⟩ : ∃ p, l[k]? = some p := ⟨_, List.getElem?_eq_getElem (by rw [HN.out]; exact hlt)⟩
      have hdl : (dd (l.take k)).length ≤ 100000 := Nat.le_trans (dd_len_le _) (by rw [List.length_take]; omega)
      obtain ⟨bb, off, hA, hbb, p0, p1⟩ := (HL.out.mod HM.out (Nat.le_refl _) (fun _ _ => id)) k p hp
      have hbb : bb < wr.heap.size := Nat.lt_of_lt_of_le hbb HM.out.size
      have v1 : (0 : Int) ≤ (k : Int) := by omega
      have v2 : (k : Int) < n := by omega
      have HDT := hid_ (dd_take_succ hp)
      by_cases hk0 : 0 < k
      · obtain ⟨q, hq⟩ : ∃ q, l[k - 1]? = some q := ⟨_, List.getElem?_eq_getElem (by rw [HN.out]; omega)⟩
        obtain ⟨bb', off', hA', hbb', q0, q1⟩ := (HL.out.mod HM.out (Nat.le_refl _) (fun _ _ => id)) (k - 1) q hq
        rw [hA] at hA'
        simp only [Option.some.injEq, Addr.mk.injEq] at hA'
        obtain ⟨rfl, rfl, -⟩ := hA'
        subst hA
        have HP := hid_ hp
        have HQ := hid_ hq
        have v3 : IntKind.i64.wrap ((k : Int) - 1) = (k : Int) - 1 := IntWalk.i64_in _ (by omega)
        have v4 : ((k : Int) - 1).toNat = k - 1 := by omega
        have v5 : (0 : Int) ≤ (k : Int) - 1 := by omega
        have v6 : (k : Int) - 1 < n := by omega
        have v7 : (1 : Int) ≤ (k : Int) := by omega
        have v8 : decide ((k : Int) = 0) = false := decide_eq_false (by omega)
        have v9 : ((k : Int) == 0) = false := by rw [beq_eq_false_iff_ne]; omega
        clear hp hq hbb'
        go_wp2_with fail
        refine wp_region_stepsC [.int .i64 k, .bool false, .bool false, .slice (some ⟨bb, off, none⟩) n c, .int .i64 k, .pointer (some ⟨bb, off + k * 2, none⟩), ptV p, .slice (some ⟨bb, off, none⟩) n c, .int .i64 k, .int .i64 ((k : Int) - 1), .pointer (some ⟨bb, off + (k - 1) * 2, none⟩), ptV q, .bool (!ptEqB p q), .bool (!ptEqB p q)] (Mod Nothing wr) (by kernel_rfl) (by kernel_rfl)
          (by simp only [putAll, Act.put, List.setIfInBounds_toArray, List.set_cons_zero, List.set_cons_succ]; rfl) ((Mod.refl _ _).drew) ?_ ?_
        · refine ⟨?_, ?_, ?_, ?_, ?_, ?_, ?_, ?_, ?_, ?_, ?_, ?_, ?_, ?_, trivial⟩
          · intro L w' hun hw hC
            refine step_yes rfl ?_
            have HC := hid_ hC
            clear hun hw hC
            go_simp
            exact still rfl HC.out
          · intro L w' hun hw hC
            refine step_yes rfl ?_
            have HC := hid_ hC
            clear hun hw hC
            go_simp
            exact still rfl HC.out
          · intro L w' hun hw hC
            refine step_yes rfl ?_
            have HC := hid_ hC
            clear hun hw hC
            go_simp
            exact still rfl HC.out
          · intro L w' hun hw hC
            refine step_yes rfl ?_
            have HC := hid_ hC
            clear hun hw hC
            go_simp
            exact still rfl HC.out
          · intro L w' hun hw hC
            refine step_yes rfl ?_
            have HC := hid_ hC
            clear hun hw hC
            go_simp
            exact still rfl HC.out
          · intro L w' hun hw hC
            refine step_yes rfl ?_
            have HC := hid_ hC
            clear hun hw hC
            go_simp
            exact still rfl HC.out
          · intro L w' hun hw hC
            refine step_yes rfl ?_
            have HC := hid_ hC
            have c0 := (HC.out.cell (p := ⟨bb, off + k * 2, none⟩) hbb id).trans p0
            have c1 := (HC.out.cell (p := ⟨bb, off + k * 2 + 1, none⟩) hbb id).trans p1
            clear hun hw hC
            go_simp
            exact still rfl HC.out
          · intro L w' hun hw hC
            refine step_yes rfl ?_
            have HC := hid_ hC
            clear hun hw hC
            go_simp
            exact still rfl HC.out
          · intro L w' hun hw hC
            refine step_yes rfl ?_
            have HC := hid_ hC
            clear hun hw hC
            go_simp
            exact still rfl HC.out
          · intro L w' hun hw hC
            refine step_yes rfl ?_
            have HC := hid_ hC
            clear hun hw hC
            go_simp
            exact still rfl HC.out
          · intro L w' hun hw hC
            refine step_yes rfl ?_
            have HC := hid_ hC
            clear hun hw hC
            go_simp
            exact still rfl HC.out
          · intro L w' hun hw hC
            refine step_yes rfl ?_
            have HC := hid_ hC
            have c0 := (HC.out.cell (p := ⟨bb, off + (k - 1) * 2, none⟩) hbb id).trans q0
            have c1 := (HC.out.cell (p := ⟨bb, off + (k - 1) * 2 + 1, none⟩) hbb id).trans q1
            clear hun hw hC
            go_simp
            exact still rfl HC.out
          · intro L w' hun hw hC
            refine step_yes rfl ?_
            have HC := hid_ hC
            clear hun hw hC
            go_simp
            exact still rfl HC.out
          · intro L w' hun hw hC
            refine step_yes rfl ?_
            have HC := hid_ hC
            clear hun hw hC
            go_simp
            exact still rfl HC.out
        · intro wy hmY
          have HMY := hid_ (HM.out.trans hmY (fun _ _ h => h))
          have HOY := hid_ (own_keep HO.out (fun k hk => hmY.block k (own_lt HO.out hk) id))
          obtain ⟨p0, p1⟩ : wy.cell? ⟨bb, off + k * 2, none⟩ = some (.int .i64 p.x) ∧ wy.cell? ⟨bb, off + k * 2 + 1, none⟩ = some (.int .i64 p.y) := ⟨(hmY.cell (p := ⟨bb, off + k * 2, none⟩) hbb id).trans p0, (hmY.cell (p := ⟨bb, off + k * 2 + 1, none⟩) hbb id).trans p1⟩
          have hbb : bb < wy.heap.size := Nat.lt_of_lt_of_le hbb hmY.size
          have hpq2 := @ptEqB_iff p q
          clear hmY q0 q1 v3 v4 v5 v6 v7 v8 v9
          cases hpq : ptEqB p q
          · have HTS := hid_ (show dd (l.take (k + 1)) = dd (l.take k) ++ [p] by
              rw [HDT.out, if_neg]
              rintro ⟨_, he⟩
              rw [HQ.out] at he
              injection he with he
              rw [hpq2.2 he.symm] at hpq
              cases hpq)
            clear hpq2 hpq
            go_wp2_with (at_builtin; refine wpList_append_lies _ rfl (.tmp 25) (.tmp 30) 22 rfl w.heap.size 24 i0 _ 2 16 Try.underlying22 HI0.out HZ0.out HZ1.out HZ2.out rfl (by decide) _ (dd (l.take k)).length (ptCells (dd (l.take k))) rfl (HOY.out.alloc _) ⟨wy.heap.size, 0, none⟩ 1 1 (ptCells [p]) rfl rfl (World.news_of_block (cs := #[.int .i64 p.x, .int .i64 p.y]) (t := 24) (fr := (0, 0)) (heap_alloc_new _ _)) (ptCells_one _) (by decide) (by unfold maxLen; omega) (by omega) (by have := HMY.out.size; simp; omega) (wy.heap.size + 1) (by simp) ?_)
            intro g1 cap1 wp1 hown1 hgrow1 hat1 hlt1
            have HM1 := hid_ ((HMY.out.alloc (.cells #[.int .i64 p.x, .int .i64 p.y] 24)).grown hgrow1 (fun k hk hl => absurd hl (by have := own_ge HOY.out hk; omega)))
            have HOC := hid_ (show wp1.ownsRow w.heap.size 24 2 (.slice (some ⟨g1, 0, none⟩) ((dd (l.take k)).length + 1) cap1) (dd (l.take (k + 1))).length (ptCells (dd (l.take (k + 1)))) by rw [HTS.out, ptCells_append, List.length_append]; exact hown1)
            clear hown1 hgrow1 hat1 hlt1
            go_wp2
            go_roundw
            case rel => exact ⟨k + 1, by omega, by go_num, HOC.out, HM1.out⟩
            case measure => simp [intOf]; omega
          · have HTS := hid_ (show dd (l.take (k + 1)) = dd (l.take k) by rw [HDT.out, if_pos ⟨hk0, by rw [HQ.out, hpq2.1 hpq]⟩])
            clear hpq2 hpq
            go_wp2
            go_roundw
            case rel => exact ⟨k + 1, by omega, by go_num, by rw [HTS.out]; exact HOY.out, HMY.out⟩
            case measure => simp [intOf]; omega
      · have hk1 : k = 0 := by omega
        subst hA
        have v8 : decide ((k : Int) = 0) = true := decide_eq_true (by omega)
        have v9 : ((k : Int) == 0) = true := by rw [beq_iff_eq]; omega
        have HTS := hid_ (show dd (l.take (k + 1)) = dd (l.take k) ++ [p] by rw [HDT.out, if_neg (fun h => hk0 h.1)])
        clear hp hk0 hk1
        go_wp2_with fail
        refine wp_region_stepsC [.int .i64 k, .bool true, .bool true, undef, undef, undef, undef, undef, undef, undef, undef, undef, undef, .bool true] (Mod Nothing wr) (by kernel_rfl) (by kernel_rfl)
          (by simp only [putAll, Act.put, List.setIfInBounds_toArray, List.set_cons_zero, List.set_cons_succ]; rfl) ((Mod.refl _ _).drew) ?_ ?_
        · refine ⟨?_, ?_, ?_, ?_, ?_, ?_, ?_, ?_, ?_, ?_, ?_, ?_, ?_, ?_, trivial⟩
          · intro L w' hun hw hC
            refine step_yes rfl ?_
            have HC := hid_ hC
            clear hun hw hC
            go_simp
            exact still rfl HC.out
          · intro L w' hun hw hC
            refine step_yes rfl ?_
            have HC := hid_ hC
            clear hun hw hC
            go_simp
            exact still rfl HC.out
          · intro L w' hun hw hC
            refine step_yes rfl ?_
            have HC := hid_ hC
            clear hun hw hC
            go_simp
            exact still rfl HC.out
          · intro L w' hun hw hC
            exact step_no rfl (still rfl hC)
          · intro L w' hun hw hC
            exact step_no rfl (still rfl hC)
          · intro L w' hun hw hC
            exact step_no rfl (still rfl hC)
          · intro L w' hun hw hC
            exact step_no rfl (still rfl hC)
          · intro L w' hun hw hC
            exact step_no rfl (still rfl hC)
          · intro L w' hun hw hC
            exact step_no rfl (still rfl hC)
          · intro L w' hun hw hC
            exact step_no rfl (still rfl hC)
          · intro L w' hun hw hC
            exact step_no rfl (still rfl hC)
          · intro L w' hun hw hC
            exact step_no rfl (still rfl hC)
          · intro L w' hun hw hC
            exact step_no rfl (still rfl hC)
          · intro L w' hun hw hC
            refine step_yes rfl ?_
            have HC := hid_ hC
            clear hun hw hC
            go_simp
            exact still rfl HC.out
        · intro wy hmY
          have HMY := hid_ (HM.out.trans hmY (fun _ _ h => h))
          have HOY := hid_ (own_keep HO.out (fun k hk => hmY.block k (own_lt HO.out hk) id))
          obtain ⟨p0, p1⟩ : wy.cell? ⟨bb, off + k * 2, none⟩ = some (.int .i64 p.x) ∧ wy.cell? ⟨bb, off + k * 2 + 1, none⟩ = some (.int .i64 p.y) := ⟨(hmY.cell (p := ⟨bb, off + k * 2, none⟩) hbb id).trans p0, (hmY.cell (p := ⟨bb, off + k * 2 + 1, none⟩) hbb id).trans p1⟩
          have hbb : bb < wy.heap.size := Nat.lt_of_lt_of_le hbb hmY.size
          clear hmY v8 v9
          go_wp2_with (at_builtin; refine wpList_append_lies _ rfl (.tmp 25) (.tmp 30) 22 rfl w.heap.size 24 i0 _ 2 16 Try.underlying22 HI0.out HZ0.out HZ1.out HZ2.out rfl (by decide) _ (dd (l.take k)).length (ptCells (dd (l.take k))) rfl (HOY.out.alloc _) ⟨wy.heap.size, 0, none⟩ 1 1 (ptCells [p]) rfl rfl (World.news_of_block (cs := #[.int .i64 p.x, .int .i64 p.y]) (t := 24) (fr := (0, 0)) (heap_alloc_new _ _)) (ptCells_one _) (by decide) (by unfold maxLen; omega) (by omega) (by have := HMY.out.size; simp; omega) (wy.heap.size + 1) (by simp) ?_)
          intro g1 cap1 wp1 hown1 hgrow1 hat1 hlt1
          have HM1 := hid_ ((HMY.out.alloc (.cells #[.int .i64 p.x, .int .i64 p.y] 24)).grown hgrow1 (fun k hk hl => absurd hl (by have := own_ge HOY.out hk; omega)))
          have HOC := hid_ (show wp1.ownsRow w.heap.size 24 2 (.slice (some ⟨g1, 0, none⟩) ((dd (l.take k)).length + 1) cap1) (dd (l.take (k + 1))).length (ptCells (dd (l.take (k + 1)))) by rw [HTS.out, ptCells_append, List.length_append]; exact hown1)
          clear hown1 hgrow1 hat1 hlt1
          go_wp2
          go_roundw
          case rel => exact ⟨k + 1, by omega, by go_num, HOC.out, HM1.out⟩
          case measure => simp [intOf]; omega
    · have hkn : k = n := by omega
      subst hkn
      have e : l.take k = l := List.take_of_length_le (by rw [HN.out]; exact Nat.le_refl _)
      rw [e] at HO
      go_wp2
      go_returns
      exact ⟨_, rfl, own_base HO.out, HM.out⟩

set_option maxRecDepth 100000 in
set_option maxHeartbeats 8000000 in
theorem around_any (w : World) (A : Option Addr) (c n : Nat) (l : List Pt) (hn : l.length = n) (hl : PtsAt w w.heap.size A l) (hm : n ≤ 100000) :
    Calls Try.prog 22 #[.slice A n c] w fun e w' => ∃ v, e = .returned v ∧ OwnPts w' v (aroundF l) ∧ Mod Nothing w w' := by
  have HD := hid_ (different_any w A c n l hn hl hm)
  have HDL := hid_ (show (dd l).length ≤ 100000 from Nat.le_trans (dd_len_le l) (by rw [hn]; exact hm))
  have heq := run_pt_eq
  clear hl hn
  go_enter Try.func22, Try.ntmps22
  go_wp2_with fail
  refine HD.out.mono ?_
  rintro e w1 ⟨v1, rfl, hov1, hm1⟩
  have HO1 := hid_ hov1
  have HM1 := hid_ hm1
  clear hov1 hm1
  go_wp2_with fail
  go_loopw [0] (fun v wr => ∃ (x : List Pt) (m2 : Nat), x.length = m2 ∧ lenOf v = m2 ∧ OwnPts wr v x ∧ trim x x.length = trim (dd l) (dd l).length ∧ m2 ≤ 100000 ∧ Mod Nothing w1 wr) (fun v _ => lenOf v)
  case atStart =>
    obtain ⟨A1, c1, e1, _, _⟩ := HO1.out.form
    exact ⟨dd l, _, rfl, by rw [e1]; rfl, HO1.out, rfl, HDL.out, Mod.refl _ _⟩
  case round =>
    obtain ⟨x, m2, hxm, hvl, hox, htx, hcx, hmx⟩ := hrel
    obtain ⟨A3, c3, hv, hpx, hcap⟩ := hox.form
    rw [hxm] at hv
    subst hv
    have HXM := hid_ hxm
    have HOX := hid_ hox
    have HTX := hid_ htx
    have HMX := hid_ hmx
    have HCX := hid_ (show m2 ≤ c3 by rw [hxm] at hcap; exact hcap)
    clear hxm hox htx hmx hvl hcap
    by_cases h1 : 1 < m2
    · have hd1 : decide (1 < (m2 : Int)) = true := decide_eq_true (by omega)
      obtain ⟨p, hp⟩ : ∃ p, x[0]? = some p := ⟨_, List.getElem?_eq_getElem (by rw [HXM.out]; omega)⟩
      obtain ⟨q, hq⟩ : ∃ q, x[m2 - 1]? = some q := ⟨_, List.getElem?_eq_getElem (by rw [HXM.out]; omega)⟩
      obtain ⟨bb, off, hA, hbb, p0, p1⟩ := hpx 0 p hp
      obtain ⟨bb', off', hA', hbb', q0, q1⟩ := hpx (m2 - 1) q hq
      rw [hA] at hA'
      simp only [Option.some.injEq, Addr.mk.injEq] at hA'
      obtain ⟨rfl, rfl, -⟩ := hA'
      subst hA
      have HP1 := hid_ hp
      have HQ1 := hid_ hq
      rw [Nat.zero_mul] at p0 p1
      have v1 : IntKind.i64.wrap ((m2 : Int) - 1) = (m2 : Int) - 1 := IntWalk.i64_in _ (by omega)
      have v2 : ((m2 : Int) - 1).toNat = m2 - 1 := by omega
      have v3 : (0 : Int) ≤ (m2 : Int) - 1 := by omega
      have v4 : (m2 : Int) - 1 < m2 := by omega
      have v5 : (1 : Int) ≤ (m2 : Int) := by omega
      have v6 : 0 < m2 := by omega
      clear hp hq hpx hbb'
      go_wp2_with fail
      refine wp_region_stepsC [.slice (some ⟨bb, off, none⟩) m2 c3, .int .i64 m2, .bool true, .bool true, .slice (some ⟨bb, off, none⟩) m2 c3, .pointer (some ⟨bb, off, none⟩), ptV p, .slice (some ⟨bb, off, none⟩) m2 c3, .slice (some ⟨bb, off, none⟩) m2 c3, .int .i64 m2, .int .i64 ((m2 : Int) - 1), .pointer (some ⟨bb, off + (m2 - 1) * 2, none⟩), ptV q, .bool (ptEqB p q), .bool (ptEqB p q)] (Mod Nothing wr) (by kernel_rfl) (by kernel_rfl)
        (by simp only [putAll, Act.put, List.setIfInBounds_toArray, List.set_cons_zero, List.set_cons_succ]; rfl) ((Mod.refl _ _).drew) ?_ ?_
      · refine ⟨?_, ?_, ?_, ?_, ?_, ?_, ?_, ?_, ?_, ?_, ?_, ?_, ?_, ?_, ?_, trivial⟩
        · intro L w' hun hw hC
          refine step_yes rfl ?_
          have HC := hid_ hC
          clear hun hw hC
          go_simp
          exact still rfl HC.out
        · intro L w' hun hw hC
          refine step_yes rfl ?_
          have HC := hid_ hC
          clear hun hw hC
          go_simp
          exact still rfl HC.out
        · intro L w' hun hw hC
          refine step_yes rfl ?_
          have HC := hid_ hC
          clear hun hw hC
          go_simp
          exact still rfl HC.out
        · intro L w' hun hw hC
          refine step_yes rfl ?_
          have HC := hid_ hC
          clear hun hw hC
          go_simp
          exact still rfl HC.out
        · intro L w' hun hw hC
          refine step_yes rfl ?_
          have HC := hid_ hC
          clear hun hw hC
          go_simp
          exact still rfl HC.out
        · intro L w' hun hw hC
          refine step_yes rfl ?_
          have HC := hid_ hC
          clear hun hw hC
          go_simp
          exact still rfl HC.out
        · intro L w' hun hw hC
          refine step_yes rfl ?_
          have HC := hid_ hC
          have c0 := (HC.out.cell (p := ⟨bb, off, none⟩) hbb id).trans p0
          have c1 := (HC.out.cell (p := ⟨bb, off + 1, none⟩) hbb id).trans p1
          clear hun hw hC
          go_simp
          exact still rfl HC.out
        · intro L w' hun hw hC
          refine step_yes rfl ?_
          have HC := hid_ hC
          clear hun hw hC
          go_simp
          exact still rfl HC.out
        · intro L w' hun hw hC
          refine step_yes rfl ?_
          have HC := hid_ hC
          clear hun hw hC
          go_simp
          exact still rfl HC.out
        · intro L w' hun hw hC
          refine step_yes rfl ?_
          have HC := hid_ hC
          clear hun hw hC
          go_simp
          exact still rfl HC.out
        · intro L w' hun hw hC
          refine step_yes rfl ?_
          have HC := hid_ hC
          clear hun hw hC
          go_simp
          exact still rfl HC.out
        · intro L w' hun hw hC
          refine step_yes rfl ?_
          have HC := hid_ hC
          clear hun hw hC
          go_simp
          exact still rfl HC.out
        · intro L w' hun hw hC
          refine step_yes rfl ?_
          have HC := hid_ hC
          have c0 := (HC.out.cell (p := ⟨bb, off + (m2 - 1) * 2, none⟩) hbb id).trans q0
          have c1 := (HC.out.cell (p := ⟨bb, off + (m2 - 1) * 2 + 1, none⟩) hbb id).trans q1
          clear hun hw hC
          go_simp
          exact still rfl HC.out
        · intro L w' hun hw hC
          refine step_yes rfl ?_
          have HC := hid_ hC
          clear hun hw hC
          go_simp
          exact still rfl HC.out
        · intro L w' hun hw hC
          refine step_yes rfl ?_
          have HC := hid_ hC
          clear hun hw hC
          go_simp
          exact still rfl HC.out
      · intro wy hmY
        have HWY := hid_ hmY
        clear hmY v1 v2 v3 v4 v5 v6 p0 p1 q0 q1 hbb hd1
        have HMXY := hid_ (HMX.out.trans HWY.out (fun _ _ h => h))
        have HOXY := hid_ (own_keep HOX.out (fun k hk => HWY.out.block k (own_lt HOX.out hk) id) : OwnPts wy _ x)
        cases hpq : ptEqB p q
        · have hne : p ≠ q := fun e => by rw [ptEqB_iff.2 e] at hpq; cases hpq
          have htr : trim x x.length = x := by
            obtain ⟨mm, hmm⟩ : ∃ mm, x.length = mm + 1 := ⟨x.length - 1, by have := HXM.out; omega⟩
            rw [hmm, trim, if_neg]
            rintro ⟨_, he⟩
            rw [List.head?_eq_getElem?, List.getLast?_eq_getElem?, HXM.out, HP1.out, HQ1.out] at he
            injection he with he
            exact hne he
          have HTR := hid_ (htr.symm.trans HTX.out)
          clear htr hpq
          by_cases h3 : m2 < 3
          · go_wp2
            go_returns
            rw [show aroundF l = [] by unfold aroundF; rw [← HTR.out, if_pos (by rw [HXM.out]; exact h3)]]
            exact ⟨_, rfl, World.ownsRow_nil _ _ _ _, HM1.out.trans HMXY.out (fun _ _ h => h)⟩
          · go_wp2
            go_returns
            rw [show aroundF l = x by unfold aroundF; rw [← HTR.out, if_neg (by rw [HXM.out]; exact h3)]]
            exact ⟨_, rfl, HOXY.out, HM1.out.trans HMXY.out (fun _ _ h => h)⟩
        · have he2 : p = q := ptEqB_iff.1 hpq
          subst he2
          have htr : trim x x.length = trim x.dropLast x.dropLast.length := by
            obtain ⟨mm, hmm⟩ : ∃ mm, x.length = mm + 1 := ⟨x.length - 1, by have := HXM.out; omega⟩
            have hlx : x.dropLast.length = mm := by rw [List.length_dropLast, hmm]; rfl
            rw [hlx, hmm, trim, if_pos]
            exact ⟨by rw [HXM.out]; exact h1, by rw [List.head?_eq_getElem?, List.getLast?_eq_getElem?, HXM.out, HP1.out, HQ1.out]⟩
          have HTR := hid_ (htr.symm.trans HTX.out)
          have HOD := hid_ (OwnPts.drop HOXY.out (by rw [HXM.out]; omega))
          have v4 : (m2 : Int) - 1 ≤ c3 := by have := HCX.out; omega
          have v3 : (0 : Int) ≤ (m2 : Int) - 1 := by omega
          have v2 : ((m2 : Int) - 1).toNat = m2 - 1 := by omega
          clear htr hpq
          go_wp2
          go_roundw
          case rel => exact ⟨x.dropLast, m2 - 1, by rw [List.length_dropLast, HXM.out], rfl, HOD.out, HTR.out, by omega, HMXY.out⟩
          case measure => simp [lenOf]; omega
    · have hd1 : decide (1 < (m2 : Int)) = false := decide_eq_false (by omega)
      have h3 : m2 < 3 := by omega
      go_wp2_with fail
      refine wp_region_stepsC [.slice A3 m2 c3, .int .i64 m2, .bool false, .bool false, undef, undef, undef, undef, undef, undef, undef, undef, undef, undef, .bool false] (Mod Nothing wr) (by kernel_rfl) (by kernel_rfl)
        (by simp only [putAll, Act.put, List.setIfInBounds_toArray, List.set_cons_zero, List.set_cons_succ]; rfl) ((Mod.refl _ _).drew) ?_ ?_
      · refine ⟨?_, ?_, ?_, ?_, ?_, ?_, ?_, ?_, ?_, ?_, ?_, ?_, ?_, ?_, ?_, trivial⟩
        · intro L w' hun hw hC
          refine step_yes rfl ?_
          have HC := hid_ hC
          clear hun hw hC
          go_simp
          exact still rfl HC.out
        · intro L w' hun hw hC
          refine step_yes rfl ?_
          have HC := hid_ hC
          clear hun hw hC
          go_simp
          exact still rfl HC.out
        · intro L w' hun hw hC
          refine step_yes rfl ?_
          have HC := hid_ hC
          clear hun hw hC
          go_simp
          exact still rfl HC.out
        · intro L w' hun hw hC
          refine step_yes rfl ?_
          have HC := hid_ hC
          clear hun hw hC
          go_simp
          exact still rfl HC.out
        · intro L w' hun hw hC
          exact step_no rfl (still rfl hC)
        · intro L w' hun hw hC
          exact step_no rfl (still rfl hC)
        · intro L w' hun hw hC
          exact step_no rfl (still rfl hC)
        · intro L w' hun hw hC
          exact step_no rfl (still rfl hC)
        · intro L w' hun hw hC
          exact step_no rfl (still rfl hC)
        · intro L w' hun hw hC
          exact step_no rfl (still rfl hC)
        · intro L w' hun hw hC
          exact step_no rfl (still rfl hC)
        · intro L w' hun hw hC
          exact step_no rfl (still rfl hC)
        · intro L w' hun hw hC
          exact step_no rfl (still rfl hC)
        · intro L w' hun hw hC
          exact step_no rfl (still rfl hC)
        · intro L w' hun hw hC
          refine step_yes rfl ?_
          have HC := hid_ hC
          clear hun hw hC
          go_simp
          exact still rfl HC.out
      · intro wy hmY
        have HMXY := hid_ (HMX.out.trans hmY (fun _ _ h => h))
        have htr : trim x x.length = x := by
          cases hx : x.length with
          | zero => rfl
          | succ mm => rw [trim, if_neg (by rw [HXM.out]; omega)]
        have HTR := hid_ (htr.symm.trans HTX.out)
        clear hmY hd1 htr
        go_wp2
        go_returns
        rw [show aroundF l = [] by unfold aroundF; rw [← HTR.out, if_pos (by rw [HXM.out]; exact h3)]]
        exact ⟨_, rfl, World.ownsRow_nil _ _ _ _, HM1.out.trans HMXY.out (fun _ _ h => h)⟩
end Go.Proofs.Ytadiajlegajclaa
