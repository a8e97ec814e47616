/- The reference: Ring. -/
import Derived.Test.YtadiajlegajclaaR4
set_option linter.unusedVariables false
set_option linter.unusedSimpArgs false
namespace Go.Proofs.Ytadiajlegajclaa
open Go.RowKit

set_option maxRecDepth 100000 in
set_option maxHeartbeats 16000000 in
theorem rring_any {w : World} (A : Option Addr) (c n : Nat) (l : List Pt) (b : Bx) (hn : l.length = n) (hl : PtsAt w w.heap.size A l) (hm : n ≤ 1000) :
    Calls Try.prog 16 #[.slice A n c, bxV b] w fun e w' => ∃ v, e = .returned v ∧ OwnPts w' v (ringF l b) ∧ Mod Nothing w w' := by
  have HL := hid_ hl
  have HN := hid_ hn
  have CNR := hid_ (fun w' (hm' : Mod Nothing w w') => rnear_any w' A c n l hn ((hl.mod hm' (Nat.le_refl _) (fun _ _ => id)).mono hm'.size) (by omega))
  obtain ⟨i0, hi0, hz0, hz1, hz2⟩ := info_parts Try.info24
  have HI0 := hid_ hi0
  have HZ0 := hid_ hz0
  have HZ1 := hid_ hz1
  have HZ2 := hid_ hz2
  clear hl hn hi0 hz0 hz1 hz2
  have HBW := hid_ (Bk.new w 26 [.int .i64 b.lo.x, .int .i64 b.lo.y, .int .i64 b.hi.x, .int .i64 b.hi.y])
  have HM0 := hid_ ((Mod.refl Nothing w).alloc (.cells #[.int .i64 b.lo.x, .int .i64 b.lo.y, .int .i64 b.hi.x, .int .i64 b.hi.y] 26))
  obtain ⟨b0, b1, b2, b3, -, -, -, -, hbl⟩ := HBW.out.four
  go_enter Try.func16, Try.ntmps16
  go_wp2_with fail
  clear b0 b1 b2 b3 hbl
  refine (rproper_any b _).mono ?_
  rintro e wq ⟨rfl, hmq⟩
  have HMQ := hid_ (HM0.out.trans hmq (fun _ _ h => h))
  have HBQ := hid_ (hmq.bk HBW.out id)
  clear hmq HM0 HBW
  cases hbx : boxB b with
  | false =>
    go_wp2
    go_returns
    rw [show ringF l b = [] by unfold ringF propB; rw [hbx]; exact if_neg (by simp)]
    exact ⟨_, rfl, World.ownsRow_nil _ _ _ _, HMQ.out⟩
  | true =>
  have HBX := hid_ hbx
  clear hbx
  go_wp2_with fail
  refine (CNR.out _ HMQ.out).mono ?_
  rintro e w1 ⟨rfl, hm1⟩
  have HM1 := hid_ (HMQ.out.trans hm1 (fun _ _ h => h))
  have HB1 := hid_ (hm1.bk HBQ.out id)
  clear hm1 HMQ HBQ
  cases hnr : l.all nearB with
  | false =>
    go_wp2
    go_returns
    rw [show ringF l b = [] by unfold ringF propB; rw [HBX.out, hnr]; exact if_neg (by simp)]
    exact ⟨_, rfl, World.ownsRow_nil _ _ _ _, HM1.out⟩
  | true =>
  have hnear := List.all_eq_true.1 hnr
  have HNB := hid_ (show PtNear b.lo ∧ PtNear b.hi from by
    have h := HBX.out
    unfold boxB at h
    simp only [Bool.and_eq_true] at h
    have h1 := nearB_iff.1 h.1.1
    have h2 := nearB_iff.1 h.1.2
    exact ⟨⟨⟨h1.1, h1.2.1⟩, h1.2.2.1, h1.2.2.2⟩, ⟨h2.1, h2.2.1⟩, h2.2.2.1, h2.2.2.2⟩)
  have HNRR := hid_ (show ∀ k, ∀ p ∈ cuts b l k, PtNear p from fun k p hp => by
    obtain ⟨a1, a2, a3, a4⟩ := cuts_within (b := b) (lo := ⟨-2097152, -2097152⟩) (hi := ⟨2097152, 2097152⟩) (fun p hp => nearB_iff.1 (hnear p hp)) k p hp
    exact ⟨⟨a1, a2⟩, a3, a4⟩)
  have HE := hid_ (show ringF l b = aroundF (cuts b l 4) from by unfold ringF propB; rw [HBX.out, hnr]; exact if_pos rfl)
  have HL0 := hid_ ((HL.out.mod HM1.out (Nat.le_refl _) (fun _ _ => id)).mono HM1.out.size)
  clear hnear hnr
  go_wp2_with fail
  go_loopw [0, 5] (fun v0 v5 wr => ∃ (k : Nat) (A' : Option Addr) (c' : Nat), k ≤ 4 ∧ v5 = .int .i64 k ∧ v0 = .slice A' (cuts b l k).length c' ∧ PtsAt wr wr.heap.size A' (cuts b l k) ∧ Mod Nothing w1 wr) (fun _ v5 _ => 4 - (intOf v5).toNat)
  case atStart => exact ⟨0, A, c, by omega, rfl, by rw [show cuts b l 0 = l from rfl, HN.out], HL0.out, Mod.refl _ _⟩
  case round =>
    obtain ⟨k, A', c', hk, rfl, rfl, hpr, hmr⟩ := hrel
    obtain ⟨r, hr⟩ : ∃ r, r = cuts b l k := ⟨_, rfl⟩
    have hcl := cuts_len b l k
    have HNR := hid_ (HNRR.out k)
    rw [← hr] at hpr hcl HNR ⊢
    rw [HN.out] at hcl
    have HRE := hid_ hr
    obtain ⟨m, hm2⟩ : ∃ m, m = r.length := ⟨_, rfl⟩
    have hml : m ≤ 16000 := by
      have h2 : 2 ^ k ≤ 16 := Nat.le_trans (Nat.pow_le_pow_right (by decide) hk) (by decide)
      have h3 : 2 ^ k * n ≤ 16 * n := Nat.mul_le_mul_right _ h2
      omega
    have HRM := hid_ hm2.symm
    rw [← hm2]
    have HRO := hid_ hpr
    have HMO := hid_ hmr
    have HBO := hid_ (hmr.bk HB1.out id)
    clear hr hcl hm2 hpr hmr
    obtain ⟨wo, hwo⟩ : ∃ wo, wo = wr := ⟨_, rfl⟩
    rw [← hwo] at HRO HMO HBO ⊢
    clear hwo
    by_cases hk4 : k < 4
    · have hkd : decide ((k : Int) < 4) = true := decide_eq_true (by omega)
      go_wp2_with fail
      go_loopw [6, 7] (fun v6 v7 wi => ∃ j : Nat, j ≤ m ∧ v7 = .int .i64 j ∧ wi.ownsRow wo.heap.size 24 2 v6 (cutTo k b r j).length (ptCells (cutTo k b r j)) ∧ Mod Nothing wo wi) (fun _ v7 _ => m - (intOf v7).toNat)
      case atStart => exact ⟨0, by omega, rfl, World.ownsRow_nil _ _ _ _, Mod.refl _ _⟩
      case round =>
        obtain ⟨j, hj, rfl, howi, hmi⟩ := hrel
        obtain ⟨wi, rfl⟩ : ∃ wi : World, wi = wr := ⟨_, rfl⟩
        have HOI := hid_ howi
        have HMI := hid_ hmi
        clear howi hmi
        by_cases hlt : j < m
        · have hjm : 0 < m := by omega
          obtain ⟨q, hq⟩ : ∃ q, r[j]? = some q := ⟨_, List.getElem?_eq_getElem (by rw [HRM.out]; exact hlt)⟩
          obtain ⟨u, hu⟩ : ∃ u, u = (j + m - 1) % m := ⟨_, rfl⟩
          have hum : u < m := by rw [hu]; exact Nat.mod_lt _ hjm
          obtain ⟨p, hp⟩ : ∃ p, r[u]? = some p := ⟨_, List.getElem?_eq_getElem (by rw [HRM.out]; exact hum)⟩
          have hje : ((j + m - 1 : Nat) : Int) = (j : Int) + (m : Int) - 1 := by omega
          have hui : ((j : Int) + (m : Int) - 1) % (m : Int) = (u : Int) := by rw [hu, ← hje]; exact (Int.natCast_emod _ _).symm
          clear hje
          have HPB := hid_ (show before r j = p by unfold before; rw [HRM.out, ← hu, List.getD_eq_getElem?_getD, hp]; rfl)
          have HQG := hid_ (show r.getD j ⟨0, 0⟩ = q by rw [List.getD_eq_getElem?_getD, hq]; rfl)
          have HNP := hid_ (HNR.out p (List.mem_of_getElem? hp))
          have HNQ := hid_ (HNR.out q (List.mem_of_getElem? hq))
          obtain ⟨bb, off, hA, hbb, p0, p1⟩ := (HRO.out.mod HMI.out (Nat.le_refl _) (fun _ _ => id)) u p hp
          obtain ⟨bb', off', hA', hbb', q0, q1⟩ := (HRO.out.mod HMI.out (Nat.le_refl _) (fun _ _ => id)) j q hq
          rw [hA] at hA'
          simp only [Option.some.injEq, Addr.mk.injEq] at hA'
          obtain ⟨rfl, rfl, -⟩ := hA'
          have HA := hid_ hA
          subst hA
          have hbw : bb < wi.heap.size := Nat.lt_of_lt_of_le hbb HMI.out.size
          have HTL := hid_ (cutTo_len k b r j)
          obtain ⟨T, hT⟩ : ∃ T, T = cutTo k b r j := ⟨_, rfl⟩
          rw [← hT] at HOI HTL
          have HTE := hid_ hT
          have hTl : T.length ≤ 400000 := by have := HTL.out; omega
          clear hp hq hu hT hbb hbb'
          go_wp2_with fail
          have HGQ := hid_ (show Bk ((wi.alloc (.cells #[.int .i64 q.x, .int .i64 q.y] 24)).alloc (.cells #[.int .i64 p.x, .int .i64 p.y] 24)) wi.heap.size 24 [.int .i64 q.x, .int .i64 q.y] from (Bk.new _ _ _).alloc _)
          have HGP := hid_ (show Bk ((wi.alloc (.cells #[.int .i64 q.x, .int .i64 q.y] 24)).alloc (.cells #[.int .i64 p.x, .int .i64 p.y] 24)) (wi.heap.size + 1) 24 [.int .i64 p.x, .int .i64 p.y] from by have h := Bk.new (wi.alloc (.cells #[.int .i64 q.x, .int .i64 q.y] 24)) 24 [.int .i64 p.x, .int .i64 p.y]; simpa using h)
          have HGB := hid_ (((HMI.out.bk HBO.out id).alloc (.cells #[.int .i64 q.x, .int .i64 q.y] 24)).alloc (.cells #[.int .i64 p.x, .int .i64 p.y] 24))
          have HMA0 := hid_ ((HMI.out.alloc (.cells #[.int .i64 q.x, .int .i64 q.y] 24)).alloc (.cells #[.int .i64 p.x, .int .i64 p.y] 24))
          have HOA0 := hid_ ((HOI.out.alloc (.cells #[.int .i64 q.x, .int .i64 q.y] 24)).alloc (.cells #[.int .i64 p.x, .int .i64 p.y] 24))
          have HBS := hid_ (show ∀ k, u6.ownBlock = some k → k < wi.heap.size from fun k hk => own_lt HOI.out hk)
          clear p0 p1 q0 q1 hbw
          obtain ⟨wa0, hwa0⟩ : ∃ wa0, wa0 = (wi.alloc (.cells #[.int .i64 q.x, .int .i64 q.y] 24)).alloc (.cells #[.int .i64 p.x, .int .i64 p.y] 24) := ⟨_, rfl⟩
          rw [← hwa0] at HGQ HGP HGB HMA0 HOA0 ⊢
          clear hwa0
          obtain ⟨x0, x1, x2, x3, -, -, -, -, xl⟩ := HGB.out.four
          obtain ⟨y0, y1, -, -, yl⟩ := HGQ.out.two
          obtain ⟨z0, z1, -, -, zl⟩ := HGP.out.two
          refine wp_region_stepsC [ptV p, bxV b, .int .i64 k, .bool (keepsF k b p), ptV q, bxV b, .int .i64 k, .bool (keepsF k b q), .bool (keepsF k b p != keepsF k b q)] (Mod Nothing wa0) (by kernel_rfl) (by kernel_rfl)
            (by simp only [putAll, Act.put, List.setIfInBounds_toArray, List.set_cons_zero, List.set_cons_succ]; rfl) ((Mod.refl _ _).drew) ?_ ?_
          · refine ⟨?_, ?_, ?_, ?_, ?_, ?_, ?_, ?_, ?_, trivial⟩
            · intro L w' hun hw hC
              refine step_yes rfl ?_
              have HC := hid_ hC
              obtain ⟨z0, z1, -, -, zl⟩ := (HC.out.bk HGP.out id).two
              clear hun hw hC
              go_simp
              exact still rfl HC.out
            · intro L w' hun hw hC
              refine step_yes rfl ?_
              have HC := hid_ hC
              obtain ⟨x0, x1, x2, x3, -, -, -, -, xl⟩ := (HC.out.bk HGB.out id).four
              clear hun hw hC
              go_simp
              exact still rfl HC.out
            · intro L w' hun hw hC
              refine step_yes rfl ?_
              have HC := hid_ hC
              clear hun hw hC
              go_simp
              exact still rfl HC.out
            · intro L w' hun hw hC
              refine step_yes rfl ?_
              have HC := hid_ hC
              clear hun hw hC
              go_simp
              refine (rkept_any hk4 p b _).mono ?_
              rintro e w3 ⟨rfl, hm⟩
              exact still rfl (HC.out.trans hm (fun _ _ h => h))
            · intro L w' hun hw hC
              refine step_yes rfl ?_
              have HC := hid_ hC
              obtain ⟨y0, y1, -, -, yl⟩ := (HC.out.bk HGQ.out id).two
              clear hun hw hC
              go_simp
              exact still rfl HC.out
            · intro L w' hun hw hC
              refine step_yes rfl ?_
              have HC := hid_ hC
              obtain ⟨x0, x1, x2, x3, -, -, -, -, xl⟩ := (HC.out.bk HGB.out id).four
              clear hun hw hC
              go_simp
              exact still rfl HC.out
            · intro L w' hun hw hC
              refine step_yes rfl ?_
              have HC := hid_ hC
              clear hun hw hC
              go_simp
              exact still rfl HC.out
            · intro L w' hun hw hC
              refine step_yes rfl ?_
              have HC := hid_ hC
              clear hun hw hC
              go_simp
              refine (rkept_any hk4 q b _).mono ?_
              rintro e w3 ⟨rfl, hm⟩
              exact still rfl (HC.out.trans hm (fun _ _ h => h))
            · intro L w' hun hw hC
              refine step_yes rfl ?_
              have HC := hid_ hC
              clear hun hw hC
              go_simp
              exact still rfl HC.out
          · intro wa hm12
            have HMA := hid_ (HMA0.out.trans hm12 (fun _ _ h => h))
            have HOA := hid_ (own_keep HOA0.out (fun k hk => hm12.block k (own_lt HOA0.out hk) id))
            have HGQa := hid_ (hm12.bk HGQ.out id)
            have HGPa := hid_ (hm12.bk HGP.out id)
            have HGBa := hid_ (hm12.bk HGB.out id)
            clear HGQ HGP HGB hm12 HMA0 HOA0 x0 x1 x2 x3 xl y0 y1 yl z0 z1 zl
            have HGQ := hid_ HGQa.out
            have HGP := hid_ HGPa.out
            have HGB := hid_ HGBa.out
            clear HGQa HGPa HGBa
            obtain ⟨x0, x1, x2, x3, -, -, -, -, xl⟩ := HGB.out.four
            obtain ⟨y0, y1, -, -, yl⟩ := HGQ.out.two
            obtain ⟨z0, z1, -, -, zl⟩ := HGP.out.two
            cases hkp : keepsF k b p
            · cases hkq : keepsF k b q
              · have HCT := hid_ (show cutTo k b r (j + 1) = T ++ ([] ++ []) by rw [cutTo_succ, HPB.out, HQG.out, ← HTE.out, cutPair, hkp, hkq]; rfl)
                have HKP := hid_ hkp
                have HKQ := hid_ hkq
                clear hkp hkq
                clear z0 z1 zl
                go_wp2_with fail
                refine (rkept_any hk4 q b _).mono ?_
                rintro e wk ⟨rfl, hmk⟩
                have HMK := hid_ (HMA.out.trans hmk (fun _ _ h => h))
                have HOK := hid_ (own_keep HOA.out (fun k hk => hmk.block k (own_lt HOA.out hk) id))
                have HGQK := hid_ (hmk.bk HGQ.out id)
                clear hmk x0 x1 x2 x3 xl y0 y1 yl
                obtain ⟨y0, y1, -, -, yl⟩ := HGQK.out.two
                rw [HKQ.out]
                clear y0 y1 yl
                go_wp2
                go_roundw
                case rel => exact ⟨j + 1, by omega, by go_num, by rw [HCT.out]; exact (by have h := HOK.out; simpa using h), HMK.out⟩
                case measure => simp [intOf]; omega
              · have HCT := hid_ (show cutTo k b r (j + 1) = T ++ ([acrossF k b p q] ++ [q]) by rw [cutTo_succ, HPB.out, HQG.out, ← HTE.out, cutPair, hkp, hkq]; rfl)
                have HKP := hid_ hkp
                have HKQ := hid_ hkq
                clear hkp hkq
                go_wp2_with fail
                refine (racross_any hk4 p q b _ HNP.out HNQ.out HNB.out.1 HNB.out.2 (by rw [HKP.out, HKQ.out]; rfl)).mono ?_
                rintro e wb ⟨rfl, hmb⟩
                obtain ⟨u, hu⟩ : ∃ u, u = acrossF k b p q := ⟨_, rfl⟩
                rw [← hu] at HCT ⊢
                have HMB := hid_ (HMA.out.trans hmb (fun _ _ h => h))
                have HOB := hid_ (own_keep HOA.out (fun k hk => hmb.block k (own_lt HOA.out hk) id))
                have HGQ2 := hid_ (hmb.bk HGQ.out id)
                have HGB2 := hid_ (hmb.bk HGB.out id)
                clear hmb hu
                clear x0 x1 x2 x3 xl y0 y1 yl z0 z1 zl
                go_wp2_with (at_builtin; refine wpList_append_lies _ rfl (.tmp 52) (.tmp 58) 22 rfl wo.heap.size 24 i0 _ 2 16 Try.underlying22 HI0.out HZ0.out HZ1.out HZ2.out rfl (by decide) _ T.length (ptCells T) rfl (HOB.out.alloc _) ⟨wb.heap.size, 0, none⟩ 1 1 (ptCells [u]) rfl rfl (World.news_of_block (cs := #[.int .i64 u.x, .int .i64 u.y]) (t := 24) (fr := (0, 0)) (heap_alloc_new _ _)) (ptCells_one _) (by decide) (by unfold maxLen; omega) (by omega) (by have := HMB.out.size; simp; omega) (wb.heap.size + 1) (by simp) ?_)
                intro g1 cap1 wp1 hown1 hgrow1 hat1 hlt1
                have HMp1 := hid_ ((HMB.out.alloc (.cells #[.int .i64 u.x, .int .i64 u.y] 24)).grown hgrow1 (fun k hk hl => absurd hl (by have := own_ge HOB.out hk; omega)))
                have far1 : ∀ g t cs, Bk wb g t cs → (∀ k, (u6 : Value).ownBlock = some k → k ≠ g) → Bk wp1 g t cs := fun g t cs hb hne => (hgrow1.block g (by have := hb.lt; simp; omega) (fun e => hne g e.symm rfl)).trans (hb.alloc _)
                have HOC := hid_ (show wp1.ownsRow wo.heap.size 24 2 (.slice (some ⟨g1, 0, none⟩) (T.length + 1) cap1) (T.length + 1) (ptCells (T ++ [u])) by rw [ptCells_append]; exact hown1)
                have HGQ3 := hid_ (far1 _ _ _ HGQ2.out (fun k hk e => by have h1 := HBS.out k hk; omega))
                have HGB3 := hid_ (far1 _ _ _ HGB2.out (fun k hk => own_ne HOB.out hk HGB2.out (by decide)))
                clear hown1 hgrow1 hat1 hlt1 far1
                obtain ⟨x0, x1, x2, x3, -, -, -, -, xl⟩ := HGB3.out.four
                obtain ⟨y0, y1, -, -, yl⟩ := HGQ3.out.two
                go_wp2_with fail
                refine (rkept_any hk4 q b _).mono ?_
                rintro e wk ⟨rfl, hmk⟩
                have HMK := hid_ (HMp1.out.trans hmk (fun _ _ h => h))
                have HOK := hid_ (own_keep HOC.out (fun k hk => hmk.block k (own_lt HOC.out hk) id))
                have HGQK := hid_ (hmk.bk HGQ3.out id)
                clear hmk x0 x1 x2 x3 xl y0 y1 yl
                obtain ⟨y0, y1, -, -, yl⟩ := HGQK.out.two
                rw [HKQ.out]
                go_wp2_with (at_builtin; refine wpList_append_lies _ rfl (.tmp 64) (.tmp 66) 22 rfl wo.heap.size 24 i0 _ 2 16 Try.underlying22 HI0.out HZ0.out HZ1.out HZ2.out rfl (by decide) _ (T.length + 1) (ptCells (T ++ [u])) rfl (HOK.out.alloc _) ⟨wk.heap.size, 0, none⟩ 1 1 (ptCells [q]) rfl rfl (World.news_of_block (cs := #[.int .i64 q.x, .int .i64 q.y]) (t := 24) (fr := (0, 0)) (heap_alloc_new _ _)) (ptCells_one _) (by decide) (by unfold maxLen; omega) (by omega) (by have := HMK.out.size; simp; omega) (wk.heap.size + 1) (by simp) ?_)
                intro g2 cap2 wp2 hown2 hgrow2 hat2 hlt2
                have HMp2 := hid_ ((HMK.out.alloc (.cells #[.int .i64 q.x, .int .i64 q.y] 24)).grown hgrow2 (fun k hk hl => absurd hl (by have := own_ge HOK.out hk; omega)))
                have HOD := hid_ hown2
                clear hown2 hgrow2 hat2 hlt2 y0 y1 yl
                go_wp2
                go_roundw
                case rel => exact ⟨j + 1, by omega, by go_num, by rw [HCT.out]; exact (by first | (rw [← ptCells_append] at HOD; simpa using HOD.out) | (have h := HOD.out; rw [← ptCells_append] at h; simpa using h)), HMp2.out⟩
                case measure => simp [intOf]; omega
            · cases hkq : keepsF k b q
              · have HCT := hid_ (show cutTo k b r (j + 1) = T ++ ([acrossF k b p q] ++ []) by rw [cutTo_succ, HPB.out, HQG.out, ← HTE.out, cutPair, hkp, hkq]; rfl)
                have HKP := hid_ hkp
                have HKQ := hid_ hkq
                clear hkp hkq
                go_wp2_with fail
                refine (racross_any hk4 p q b _ HNP.out HNQ.out HNB.out.1 HNB.out.2 (by rw [HKP.out, HKQ.out]; rfl)).mono ?_
                rintro e wb ⟨rfl, hmb⟩
                obtain ⟨u, hu⟩ : ∃ u, u = acrossF k b p q := ⟨_, rfl⟩
                rw [← hu] at HCT ⊢
                have HMB := hid_ (HMA.out.trans hmb (fun _ _ h => h))
                have HOB := hid_ (own_keep HOA.out (fun k hk => hmb.block k (own_lt HOA.out hk) id))
                have HGQ2 := hid_ (hmb.bk HGQ.out id)
                have HGB2 := hid_ (hmb.bk HGB.out id)
                clear hmb hu
                clear x0 x1 x2 x3 xl y0 y1 yl z0 z1 zl
                go_wp2_with (at_builtin; refine wpList_append_lies _ rfl (.tmp 52) (.tmp 58) 22 rfl wo.heap.size 24 i0 _ 2 16 Try.underlying22 HI0.out HZ0.out HZ1.out HZ2.out rfl (by decide) _ T.length (ptCells T) rfl (HOB.out.alloc _) ⟨wb.heap.size, 0, none⟩ 1 1 (ptCells [u]) rfl rfl (World.news_of_block (cs := #[.int .i64 u.x, .int .i64 u.y]) (t := 24) (fr := (0, 0)) (heap_alloc_new _ _)) (ptCells_one _) (by decide) (by unfold maxLen; omega) (by omega) (by have := HMB.out.size; simp; omega) (wb.heap.size + 1) (by simp) ?_)
                intro g3 cap3 wp3 hown3 hgrow3 hat3 hlt3
                have HMp3 := hid_ ((HMB.out.alloc (.cells #[.int .i64 u.x, .int .i64 u.y] 24)).grown hgrow3 (fun k hk hl => absurd hl (by have := own_ge HOB.out hk; omega)))
                have far3 : ∀ g t cs, Bk wb g t cs → (∀ k, (u6 : Value).ownBlock = some k → k ≠ g) → Bk wp3 g t cs := fun g t cs hb hne => (hgrow3.block g (by have := hb.lt; simp; omega) (fun e => hne g e.symm rfl)).trans (hb.alloc _)
                have HOC := hid_ (show wp3.ownsRow wo.heap.size 24 2 (.slice (some ⟨g3, 0, none⟩) (T.length + 1) cap3) (T.length + 1) (ptCells (T ++ [u])) by rw [ptCells_append]; exact hown3)
                have HGQ3 := hid_ (far3 _ _ _ HGQ2.out (fun k hk e => by have h1 := HBS.out k hk; omega))
                have HGB3 := hid_ (far3 _ _ _ HGB2.out (fun k hk => own_ne HOB.out hk HGB2.out (by decide)))
                clear hown3 hgrow3 hat3 hlt3 far3
                obtain ⟨x0, x1, x2, x3, -, -, -, -, xl⟩ := HGB3.out.four
                obtain ⟨y0, y1, -, -, yl⟩ := HGQ3.out.two
                go_wp2_with fail
                refine (rkept_any hk4 q b _).mono ?_
                rintro e wk ⟨rfl, hmk⟩
                have HMK := hid_ (HMp3.out.trans hmk (fun _ _ h => h))
                have HOK := hid_ (own_keep HOC.out (fun k hk => hmk.block k (own_lt HOC.out hk) id))
                have HGQK := hid_ (hmk.bk HGQ3.out id)
                clear hmk x0 x1 x2 x3 xl y0 y1 yl
                obtain ⟨y0, y1, -, -, yl⟩ := HGQK.out.two
                rw [HKQ.out]
                clear y0 y1 yl
                go_wp2
                go_roundw
                case rel => exact ⟨j + 1, by omega, by go_num, by rw [HCT.out]; exact (by have h := HOK.out; simpa using h), HMK.out⟩
                case measure => simp [intOf]; omega
              · have HCT := hid_ (show cutTo k b r (j + 1) = T ++ ([] ++ [q]) by rw [cutTo_succ, HPB.out, HQG.out, ← HTE.out, cutPair, hkp, hkq]; rfl)
                have HKP := hid_ hkp
                have HKQ := hid_ hkq
                clear hkp hkq
                clear z0 z1 zl
                go_wp2_with fail
                refine (rkept_any hk4 q b _).mono ?_
                rintro e wk ⟨rfl, hmk⟩
                have HMK := hid_ (HMA.out.trans hmk (fun _ _ h => h))
                have HOK := hid_ (own_keep HOA.out (fun k hk => hmk.block k (own_lt HOA.out hk) id))
                have HGQK := hid_ (hmk.bk HGQ.out id)
                clear hmk x0 x1 x2 x3 xl y0 y1 yl
                obtain ⟨y0, y1, -, -, yl⟩ := HGQK.out.two
                rw [HKQ.out]
                go_wp2_with (at_builtin; refine wpList_append_lies _ rfl (.tmp 64) (.tmp 66) 22 rfl wo.heap.size 24 i0 _ 2 16 Try.underlying22 HI0.out HZ0.out HZ1.out HZ2.out rfl (by decide) _ T.length (ptCells T) rfl (HOK.out.alloc _) ⟨wk.heap.size, 0, none⟩ 1 1 (ptCells [q]) rfl rfl (World.news_of_block (cs := #[.int .i64 q.x, .int .i64 q.y]) (t := 24) (fr := (0, 0)) (heap_alloc_new _ _)) (ptCells_one _) (by decide) (by unfold maxLen; omega) (by omega) (by have := HMK.out.size; simp; omega) (wk.heap.size + 1) (by simp) ?_)
                intro g4 cap4 wp4 hown4 hgrow4 hat4 hlt4
                have HMp4 := hid_ ((HMK.out.alloc (.cells #[.int .i64 q.x, .int .i64 q.y] 24)).grown hgrow4 (fun k hk hl => absurd hl (by have := own_ge HOK.out hk; omega)))
                have HOD := hid_ hown4
                clear hown4 hgrow4 hat4 hlt4 y0 y1 yl
                go_wp2
                go_roundw
                case rel => exact ⟨j + 1, by omega, by go_num, by rw [HCT.out]; exact (by first | (rw [← ptCells_append] at HOD; simpa using HOD.out) | (have h := HOD.out; rw [← ptCells_append] at h; simpa using h)), HMp4.out⟩
                case measure => simp [intOf]; omega
        · have hje : j = m := by omega
          subst hje
          obtain ⟨A2, c2, hv, hpa, -⟩ := OwnPts.form (show OwnPts wi u6 (cutTo k b r j) from own_base HOI.out)
          subst hv
          have HPA2 := hid_ hpa
          have hcu : cuts b l (k + 1) = cutTo k b r j := by show cutF k b (cuts b l k) = _; rw [← HRE.out, cutF, HRM.out]
          have HCU := hid_ hcu
          clear hpa hcu
          go_wp2
          go_roundw
          case rel =>
            exact ⟨k + 1, A2, c2, by omega, by go_num, by rw [HCU.out], by rw [HCU.out]; exact HPA2.out, HMO.out.trans HMI.out (fun _ _ h => h)⟩
          case measure => simp [intOf]; omega
    · have hk5 : k = 4 := by omega
      subst hk5
      have CAR := hid_ (around_any wo A' c' m r HRM.out HRO.out (by omega))
      go_wp2_with fail
      refine CAR.out.mono ?_
      rintro e w9 ⟨v, rfl, ho, hm9⟩
      have HO9 := hid_ ho
      have HM9 := hid_ (HM1.out.trans (HMO.out.trans hm9 (fun _ _ h => h)) (fun _ _ h => h))
      obtain ⟨A9, c9, rfl, _, _⟩ := ho.form
      clear ho hm9
      go_wp2
      go_returns
      rw [HE.out, ← HRE.out]
      exact ⟨_, rfl, HO9.out, HM9.out⟩
end Go.Proofs.Ytadiajlegajclaa
