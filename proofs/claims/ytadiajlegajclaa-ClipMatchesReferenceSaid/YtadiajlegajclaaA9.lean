/- Ring. -/
import Derived.Test.YtadiajlegajclaaA8
import Derived.Laws.EntriesVeiled
set_option linter.unusedVariables false
set_option linter.unusedSimpArgs false
namespace Go.Proofs.Ytadiajlegajclaa
open Go.RowKit

abbrev cutsV (b : Bx) : Value := .agg #[.func (.func 32) #[] #[], .int .i64 (-b.lo.x), .func (.func 33) #[] #[], .int .i64 b.hi.x, .func (.func 34) #[] #[], .int .i64 (-b.lo.y), .func (.func 35) #[] #[], .int .i64 b.hi.y]
theorem cut_index0 (b : Bx) (w : World) : (Instr.index 47 (cutsV b) (.int .i64 0)).run Try.prog w = .ok (.agg #[.func (.func 32) #[] #[], .int .i64 (-b.lo.x)]) w := by kernel_rfl
theorem cut_index1 (b : Bx) (w : World) : (Instr.index 47 (cutsV b) (.int .i64 1)).run Try.prog w = .ok (.agg #[.func (.func 33) #[] #[], .int .i64 b.hi.x]) w := by kernel_rfl
theorem cut_index2 (b : Bx) (w : World) : (Instr.index 47 (cutsV b) (.int .i64 2)).run Try.prog w = .ok (.agg #[.func (.func 34) #[] #[], .int .i64 (-b.lo.y)]) w := by kernel_rfl
theorem cut_index3 (b : Bx) (w : World) : (Instr.index 47 (cutsV b) (.int .i64 3)).run Try.prog w = .ok (.agg #[.func (.func 35) #[] #[], .int .i64 b.hi.y]) w := by kernel_rfl
theorem cut_index (b : Bx) {k : Nat} (hk : k < 4) (w : World) : (Instr.index 47 (cutsV b) (.int .i64 (k : Int))).run Try.prog w = .ok (cutV k b) w := by
  have h : k = 0 ∨ k = 1 ∨ k = 2 ∨ k = 3 := by omega
  rcases h with rfl | rfl | rfl | rfl
  · exact cut_index0 b w
  · exact cut_index1 b w
  · exact cut_index2 b w
  · exact cut_index3 b w

theorem OwnPts.drop {w : World} {A : Option Addr} {m c : Nat} {x : List Pt} (h : OwnPts w (.slice A m c) x) (hx : 0 < x.length) : OwnPts w (.slice A (m - 1) c) x.dropLast := by
  unfold OwnPts at h ⊢
  rcases h.2 with ⟨hv, hn⟩ | ⟨g, cap, cur, hv, hb, hh, hnc, hcm, hcs, ht⟩
  · omega
  · injection hv with h1 h2 h3
    have hl : x.dropLast.length = x.length - 1 := List.length_dropLast ..
    refine ⟨by rw [ptCells_length], .inr ⟨g, cap, cur, by rw [h1, h2, h3, hl], hb, hh, by omega, hcm, hcs, ?_⟩⟩
    have hx2 : x ≠ [] := fun e => by subst e; simp at hx
    have e : ptCells x = ptCells x.dropLast ++ ptCells [x.getLast hx2] := by rw [← ptCells_append, List.dropLast_concat_getLast]
    have hlen := ptCells_length x.dropLast
    have : cur.toList.take (x.dropLast.length * 2) = (cur.toList.take (x.length * 2)).take (x.dropLast.length * 2) := by rw [List.take_take, Nat.min_eq_left (by omega)]
    rw [this, ht, e, ← hlen, List.take_left]
def lenOf : Value → Nat
  | .slice _ n _ => n
  | _ => 0

set_option maxRecDepth 100000 in
set_option maxHeartbeats 8000000 in
theorem ring_any {w : World} (A : Option Addr) (c n : Nat) (l : List Pt) (b : Bx) (hn : l.length = n) (hl : PtsAt w w.heap.size A l) (hm : n ≤ 10000) (hwf : ∀ p ∈ l, PtWf p) (hb : BxWf b) :
    Calls Try.prog 15 #[.slice A n c, bxV b] w fun e w' => ∃ v, e = .returned v ∧ OwnPts w' v (ringF l b) ∧ (∀ k, v.ownBlock = some k → w.heap.size ≤ k) ∧ Mod Nothing w w' := by
  have hl0 : PtsAt (w.alloc (.cells #[.int .i64 b.lo.x, .int .i64 b.lo.y, .int .i64 b.hi.x, .int .i64 b.hi.y] 26)) w.heap.size A l := hl.keep fun k hk => Below.heap_alloc _ _ _ hk
  have HP := hid_ (proper_any (w.alloc (.cells #[.int .i64 b.lo.x, .int .i64 b.lo.y, .int .i64 b.hi.x, .int .i64 b.hi.y] 26)) A c n l b hn (hl0.mono (by simp)) (by omega) hwf hb)
  have HL := hid_ hl
  have HN := hid_ hn
  clear hl hn hwf hl0
  cases hpr : propB l b with
  | false =>
    have e : ringF l b = [] := by unfold ringF; rw [if_neg (by rw [hpr]; simp)]
    rw [hpr] at HP
    go_enter Try.func15, Try.ntmps15
    go_wp2_with fail
    refine HP.out.mono ?_
    rintro e w1 ⟨rfl, hm1⟩
    have HM1 := hid_ hm1
    clear hm1
    go_wp2
    go_returns
    rw [e]
    exact ⟨_, rfl, World.ownsRow_nil _ _ _ _, (fun k hk => by simp [Value.ownBlock] at hk), ((Mod.refl _ _).alloc _).trans HM1.out (fun _ _ h => h)⟩
  | true =>
    obtain ⟨hpl, hblo, hbhi, -, -⟩ := prop_near hpr
    obtain ⟨⟨lx1, lx2⟩, ly1, ly2⟩ := hblo
    obtain ⟨⟨hx1, hx2⟩, hy1, hy2⟩ := hbhi
    rw [hpr] at HP
    have HPL := hid_ hpl
    have e : ringF l b = aroundF (cuts b l 4) := by unfold ringF; rw [if_pos hpr]
    have HE := hid_ e
    clear hpr hpl e
    go_enter Try.func15, Try.ntmps15
    go_wp2_with fail
    refine HP.out.mono ?_
    rintro e w1 ⟨rfl, hm1⟩
    have hk1 := hm1.bk (Bk.new w 26 [.int .i64 b.lo.x, .int .i64 b.lo.y, .int .i64 b.hi.x, .int .i64 b.hi.y]) id
    have HK1 := hid_ hk1
    have HM1 := hid_ (((Mod.refl Nothing w).alloc (.cells #[.int .i64 b.lo.x, .int .i64 b.lo.y, .int .i64 b.hi.x, .int .i64 b.hi.y] 26)).trans hm1 (fun _ _ h => h))
    have hsz : w.heap.size < w1.heap.size := by have := hm1.size; simp at this; omega
    have HL1 := hid_ (HL.out.keep (w' := w1) (fun k hk => HM1.out.block k hk id))
    obtain ⟨b0, b1, b2, b3, -, -, -, -, hbl⟩ := hk1.four
    clear hm1 hk1
    go_wp2_with fail
    have hL0 : PtsAt (w1.alloc (.cells #[.func (.func 32) #[] #[], .int .i64 (-b.lo.x), .func (.func 33) #[] #[], .int .i64 b.hi.x, .func (.func 34) #[] #[], .int .i64 (-b.lo.y), .func (.func 35) #[] #[], .int .i64 b.hi.y] 47)) (w1.alloc (.cells #[.func (.func 32) #[] #[], .int .i64 (-b.lo.x), .func (.func 33) #[] #[], .int .i64 b.hi.x, .func (.func 34) #[] #[], .int .i64 (-b.lo.y), .func (.func 35) #[] #[], .int .i64 b.hi.y] 47)).heap.size A l := (HL1.out.keep fun j hj => Below.heap_alloc _ _ _ (by omega)).mono (by simp; omega)
    have HL0 := hid_ hL0
    have HMC := hid_ ((Mod.refl Nothing w1).alloc (.cells #[.func (.func 32) #[] #[], .int .i64 (-b.lo.x), .func (.func 33) #[] #[], .int .i64 b.hi.x, .func (.func 34) #[] #[], .int .i64 (-b.lo.y), .func (.func 35) #[] #[], .int .i64 b.hi.y] 47))
    have hix := fun (k : Nat) (hk : k < 4) w => cut_index b hk w
    have HIX := hid_ hix
    have HLIM := hid_ (show ∀ i, -2097152 ≤ limitC i b ∧ limitC i b ≤ 2097152 from fun i => by unfold limitC; split; omega; split; omega; split <;> omega)
    have HNRR := hid_ (show ∀ k, ∀ p ∈ cuts b l k, PtNear p from fun k p hp => by
      obtain ⟨a1, a2, a3, a4⟩ := cuts_within (b := b) (lo := ⟨-2097152, -2097152⟩) (hi := ⟨2097152, 2097152⟩) (fun p hp => ⟨(HPL.out p hp).1.1, (HPL.out p hp).1.2, (HPL.out p hp).2.1, (HPL.out p hp).2.2⟩) k p hp
      exact ⟨⟨a1, a2⟩, a3, a4⟩)
    obtain ⟨i0, hi0, hz0, hz1, hz2⟩ := info_parts Try.info24
    have HI0 := hid_ hi0
    have HZ0 := hid_ hz0
    have HZ1 := hid_ hz1
    have HZ2 := hid_ hz2
    clear hL0 hix b0 b1 b2 b3 hbl hi0 hz0 hz1 hz2
    go_loopw [0, 36] (fun v0 v36 wr => ∃ (k : Nat) (A' : Option Addr) (c' : Nat), k ≤ 4 ∧ v36 = .int .i64 k ∧ v0 = .slice A' (cuts b l k).length c' ∧ PtsAt wr wr.heap.size A' (cuts b l k) ∧ (1 ≤ k → OwnPts wr v0 (cuts b l k) ∧ ∀ g, v0.ownBlock = some g → w.heap.size ≤ g) ∧ Mod Nothing w1 wr) (fun _ v36 _ => 4 - (intOf v36).toNat)
    case atStart => exact ⟨0, A, c, by omega, rfl, by rw [show cuts b l 0 = l from rfl, HN.out], HL0.out, fun h => by omega, HMC.out⟩
    case round =>
      obtain ⟨k, A', c', hk, rfl, rfl, hpr, hor, hmr⟩ := hrel
      obtain ⟨r, hr⟩ : ∃ r, r = cuts b l k := ⟨_, rfl⟩
      have hcl := cuts_len b l k
      have HNR := hid_ (HNRR.out k)
      rw [← hr] at hpr hor hcl HNR ⊢
      rw [HN.out] at hcl
      have HRE := hid_ hr
      obtain ⟨m, hm2⟩ : ∃ m, m = r.length := ⟨_, rfl⟩
      have hml : m ≤ 160000 := by
        have h2 : 2 ^ k ≤ 16 := Nat.le_trans (Nat.pow_le_pow_right (by decide) hk) (by decide)
        have h3 : 2 ^ k * n ≤ 16 * n := Nat.mul_le_mul_right _ h2
        omega
      have HRM := hid_ hm2.symm
      rw [← hm2]
      have HPR := hid_ hpr
      have HOR := hid_ hor
      have HMR := hid_ hmr
      clear hr hcl hm2 hpr hor hmr
      by_cases hk4 : k < 4
      · have hix := fun w => HIX.out k hk4 w
        have HLM := hid_ (HLIM.out k)
        have hcv := fun args w => callFunc_cid hk4 args w
        have hkd : decide ((k : Int) < 4) = true := decide_eq_true (by omega)
        go_wp2_with fail
        have HGO0 := hid_ (show Bk (wr.alloc (.cells #[.func (.func (cid k)) #[] #[], .int .i64 (limitC k b)] 46)) wr.heap.size 46 [.func (.func (cid k)) #[] #[], .int .i64 (limitC k b)] from Bk.new _ _ _)
        have HRO0 := hid_ ((HPR.out.keep (w' := wr.alloc (.cells #[.func (.func (cid k)) #[] #[], .int .i64 (limitC k b)] 46)) (fun j hj => Below.heap_alloc _ _ _ hj)).mono (B' := (wr.alloc (.cells #[.func (.func (cid k)) #[] #[], .int .i64 (limitC k b)] 46)).heap.size) (by simp))
        have HMO0 := hid_ (HMR.out.alloc (.cells #[.func (.func (cid k)) #[] #[], .int .i64 (limitC k b)] 46))
        obtain ⟨wo, hwo⟩ : ∃ wo, wo = wr.alloc (.cells #[.func (.func (cid k)) #[] #[], .int .i64 (limitC k b)] 46) := ⟨_, rfl⟩
        rw [← hwo] at HGO0 HRO0 HMO0 ⊢
        have HGO := hid_ HGO0.out
        have HRO := hid_ HRO0.out
        have HMO := hid_ HMO0.out
        clear hwo HGO0 HRO0 HMO0
        go_loopw [8, 41] (fun v8 v41 wi => ∃ j : Nat, j ≤ m ∧ v41 = .int .i64 j ∧ wi.ownsRow wo.heap.size 24 2 v8 (cutTo k b r j).length (ptCells (cutTo k b r j)) ∧ Mod Nothing wo wi) (fun _ v41 _ => m - (intOf v41).toNat)
        case atStart => exact ⟨0, by omega, rfl, World.ownsRow_nil _ _ _ _, Mod.refl _ _⟩
        case round =>
          obtain ⟨j, hj, rfl, howi, hmi⟩ := hrel
          obtain ⟨wi, rfl⟩ : ∃ wi : World, wi = wr := ⟨_, rfl⟩
          have HOI := hid_ howi
          have HMI := hid_ hmi
          clear howi hmi
          by_cases hlt : j < m
          · have hjm : 0 < m := by omega
            obtain ⟨q, hq⟩ : ∃ q, r[j]? = some q := ⟨_, List.getElem?_eq_getElem (by rw [HRM.out]; exact hlt)⟩
            obtain ⟨u, hu⟩ : ∃ u, u = (j + m - 1) % m := ⟨_, rfl⟩
            have hum : u < m := by rw [hu]; exact Nat.mod_lt _ hjm
            obtain ⟨p, hp⟩ : ∃ p, r[u]? = some p := ⟨_, List.getElem?_eq_getElem (by rw [HRM.out]; exact hum)⟩
            have hje : ((j + m - 1 : Nat) : Int) = (j : Int) + (m : Int) - 1 := by omega
            have hui : ((j : Int) + (m : Int) - 1) % (m : Int) = (u : Int) := by rw [hu, ← hje]; exact (Int.natCast_emod _ _).symm
            clear hje
            have HPB := hid_ (show before r j = p by unfold before; rw [HRM.out, ← hu, List.getD_eq_getElem?_getD, hp]; rfl)
            have HQG := hid_ (show r.getD j ⟨0, 0⟩ = q by rw [List.getD_eq_getElem?_getD, hq]; rfl)
            have HNP := hid_ (HNR.out p (List.mem_of_getElem? hp))
            have HNQ := hid_ (HNR.out q (List.mem_of_getElem? hq))
            obtain ⟨bb, off, hA, hbb, p0, p1⟩ := (HRO.out.mod HMI.out (Nat.le_refl _) (fun _ _ => id)) u p hp
            obtain ⟨bb', off', hA', hbb', q0, q1⟩ := (HRO.out.mod HMI.out (Nat.le_refl _) (fun _ _ => id)) j q hq
            rw [hA] at hA'
            simp only [Option.some.injEq, Addr.mk.injEq] at hA'
            obtain ⟨rfl, rfl, -⟩ := hA'
            have HA := hid_ hA
            subst hA
            have hbw : bb < wi.heap.size := Nat.lt_of_lt_of_le hbb HMI.out.size
            have HTL := hid_ (cutTo_len k b r j)
            obtain ⟨T, hT⟩ : ∃ T, T = cutTo k b r j := ⟨_, rfl⟩
            rw [← hT] at HOI HTL
            have HTE := hid_ hT
            have hTl : T.length ≤ 400000 := by have := HTL.out; omega
            clear hp hq hu hT hbb hbb'
            go_wp2_with fail
            have HGQ := hid_ (show Bk ((wi.alloc (.cells #[.int .i64 q.x, .int .i64 q.y] 24)).alloc (.cells #[.int .i64 p.x, .int .i64 p.y] 24)) wi.heap.size 24 [.int .i64 q.x, .int .i64 q.y] from (Bk.new _ _ _).alloc _)
            have HGP := hid_ (show Bk ((wi.alloc (.cells #[.int .i64 q.x, .int .i64 q.y] 24)).alloc (.cells #[.int .i64 p.x, .int .i64 p.y] 24)) (wi.heap.size + 1) 24 [.int .i64 p.x, .int .i64 p.y] from by have h := Bk.new (wi.alloc (.cells #[.int .i64 q.x, .int .i64 q.y] 24)) 24 [.int .i64 p.x, .int .i64 p.y]; simpa using h)
            have HGC := hid_ (((HMI.out.bk HGO.out id).alloc (.cells #[.int .i64 q.x, .int .i64 q.y] 24)).alloc (.cells #[.int .i64 p.x, .int .i64 p.y] 24))
            have HMA0 := hid_ ((HMI.out.alloc (.cells #[.int .i64 q.x, .int .i64 q.y] 24)).alloc (.cells #[.int .i64 p.x, .int .i64 p.y] 24))
            have HOA0 := hid_ ((HOI.out.alloc (.cells #[.int .i64 q.x, .int .i64 q.y] 24)).alloc (.cells #[.int .i64 p.x, .int .i64 p.y] 24))
            have HBS := hid_ (show ∀ k, u8.ownBlock = some k → k < wi.heap.size from fun k hk => own_lt HOI.out hk)
            have HLQ := hid_ (Nat.le_refl wi.heap.size)
            clear p0 p1 q0 q1 hbw
            obtain ⟨wa0, hwa0⟩ : ∃ wa0, wa0 = (wi.alloc (.cells #[.int .i64 q.x, .int .i64 q.y] 24)).alloc (.cells #[.int .i64 p.x, .int .i64 p.y] 24) := ⟨_, rfl⟩
            rw [← hwa0] at HGQ HGP HGC HMA0 HOA0 ⊢
            clear hwa0
            obtain ⟨x0, x1, -, -, xl⟩ := HGC.out.two
            obtain ⟨y0, y1, -, -, yl⟩ := HGQ.out.two
            obtain ⟨z0, z1, -, -, zl⟩ := HGP.out.two
            refine wp_region_stepsC [cutV k b, ptV p, .bool (keepsF k b p), cutV k b, ptV q, .bool (keepsF k b q), .bool (keepsF k b p != keepsF k b q)] (Mod Nothing wa0) (by kernel_rfl) (by kernel_rfl)
              (by simp only [putAll, Act.put, List.setIfInBounds_toArray, List.set_cons_zero, List.set_cons_succ]; rfl) ((Mod.refl _ _).drew) ?_ ?_
            · refine ⟨?_, ?_, ?_, ?_, ?_, ?_, ?_, trivial⟩
              · intro L w' hun hw hC
                refine step_yes rfl ?_
                have HC := hid_ hC
                obtain ⟨x0, x1, -, -, xl⟩ := (HC.out.bk HGC.out id).two
                clear hun hw hC
                go_simp
                exact still rfl HC.out
              · intro L w' hun hw hC
                refine step_yes rfl ?_
                have HC := hid_ hC
                obtain ⟨z0, z1, -, -, zl⟩ := (HC.out.bk HGP.out id).two
                clear hun hw hC
                go_simp
                exact still rfl HC.out
              · intro L w' hun hw hC
                refine step_yes rfl ?_
                have HC := hid_ hC
                clear hun hw hC
                go_simp
                refine (keeps_any hk4 b p _ HNP.out).mono ?_
                rintro e w3 ⟨rfl, hm⟩
                exact still rfl (HC.out.trans hm (fun _ _ h => h))
              · intro L w' hun hw hC
                refine step_yes rfl ?_
                have HC := hid_ hC
                obtain ⟨x0, x1, -, -, xl⟩ := (HC.out.bk HGC.out id).two
                clear hun hw hC
                go_simp
                exact still rfl HC.out
              · intro L w' hun hw hC
                refine step_yes rfl ?_
                have HC := hid_ hC
                obtain ⟨y0, y1, -, -, yl⟩ := (HC.out.bk HGQ.out id).two
                clear hun hw hC
                go_simp
                exact still rfl HC.out
              · intro L w' hun hw hC
                refine step_yes rfl ?_
                have HC := hid_ hC
                clear hun hw hC
                go_simp
                refine (keeps_any hk4 b q _ HNQ.out).mono ?_
                rintro e w3 ⟨rfl, hm⟩
                exact still rfl (HC.out.trans hm (fun _ _ h => h))
              · intro L w' hun hw hC
                refine step_yes rfl ?_
                have HC := hid_ hC
                clear hun hw hC
                go_simp
                exact still rfl HC.out
            · intro wa hm12
              have HMA := hid_ (HMA0.out.trans hm12 (fun _ _ h => h))
              have HOA := hid_ (own_keep HOA0.out (fun k hk => hm12.block k (own_lt HOA0.out hk) id))
              have HGQa := hid_ (hm12.bk HGQ.out id)
              have HGPa := hid_ (hm12.bk HGP.out id)
              have HGCa := hid_ (hm12.bk HGC.out id)
              clear HGQ HGP HGC hm12 HMA0 HOA0 x0 x1 xl y0 y1 yl z0 z1 zl
              have HGQ := hid_ HGQa.out
              have HGP := hid_ HGPa.out
              have HGC := hid_ HGCa.out
              clear HGQa HGPa HGCa
              obtain ⟨x0, x1, -, -, xl⟩ := HGC.out.two
              obtain ⟨y0, y1, -, -, yl⟩ := HGQ.out.two
              obtain ⟨z0, z1, -, -, zl⟩ := HGP.out.two
              cases hkp : keepsF k b p
              · cases hkq : keepsF k b q
                · have HCT := hid_ (show cutTo k b r (j + 1) = T ++ ([] ++ []) by rw [cutTo_succ, HPB.out, HQG.out, ← HTE.out, cutPair, hkp, hkq]; rfl)
                  have HKP := hid_ hkp
                  have HKQ := hid_ hkq
                  clear hkp hkq
                  clear x0 x1 xl y0 y1 yl z0 z1 zl
                  obtain ⟨x0, x1, -, -, xl⟩ := HGC.out.two
                  obtain ⟨y0, y1, -, -, yl⟩ := HGQ.out.two
                  go_wp2_with fail
                  refine (keeps_any hk4 b q _ HNQ.out).mono ?_
                  rintro e wk ⟨rfl, hmk⟩
                  have HMK := hid_ (HMA.out.trans hmk (fun _ _ h => h))
                  have HOK := hid_ (own_keep HOA.out (fun k hk => hmk.block k (own_lt HOA.out hk) id))
                  have HGQK := hid_ (hmk.bk HGQ.out id)
                  clear hmk x0 x1 xl y0 y1 yl
                  obtain ⟨y0, y1, -, -, yl⟩ := HGQK.out.two
                  rw [HKQ.out]
                  clear y0 y1 yl
                  go_wp2
                  go_roundw
                  case rel => exact ⟨j + 1, by omega, by go_num, by rw [HCT.out]; exact (by have h := HOK.out; simpa using h), HMK.out⟩
                  case measure => simp [intOf]; omega
                · have HCT := hid_ (show cutTo k b r (j + 1) = T ++ ([acrossF k b p q] ++ [q]) by rw [cutTo_succ, HPB.out, HQG.out, ← HTE.out, cutPair, hkp, hkq]; rfl)
                  have HKP := hid_ hkp
                  have HKQ := hid_ hkq
                  clear hkp hkq
                  go_wp2_with fail
                  refine (across_any hk4 b p q _ HNP.out HNQ.out HLM.out (acrossR_unit (by rw [HKP.out, HKQ.out]; rfl)).2).mono ?_
                  rintro e wb ⟨rfl, hmb⟩
                  obtain ⟨u, hu⟩ : ∃ u, u = acrossF k b p q := ⟨_, rfl⟩
                  rw [← hu] at HCT ⊢
                  have HMB := hid_ (HMA.out.trans hmb (fun _ _ h => h))
                  have HOB := hid_ (own_keep HOA.out (fun k hk => hmb.block k (own_lt HOA.out hk) id))
                  have HGQ2 := hid_ (hmb.bk HGQ.out id)
                  have HGP2 := hid_ (hmb.bk HGP.out id)
                  have HGC2 := hid_ (hmb.bk HGC.out id)
                  clear hmb hu
                  clear x0 x1 xl y0 y1 yl z0 z1 zl
                  obtain ⟨x0, x1, -, -, xl⟩ := HGC2.out.two
                  obtain ⟨y0, y1, -, -, yl⟩ := HGQ2.out.two
                  go_wp2_with (at_builtin; refine wpList_append_lies _ rfl (.tmp 64) (.tmp 69) 22 rfl wo.heap.size 24 i0 _ 2 16 Try.underlying22 HI0.out HZ0.out HZ1.out HZ2.out rfl (by decide) _ T.length (ptCells T) rfl (HOB.out.alloc _) ⟨wb.heap.size, 0, none⟩ 1 1 (ptCells [u]) rfl rfl (World.news_of_block (cs := #[.int .i64 u.x, .int .i64 u.y]) (t := 24) (fr := (0, 0)) (heap_alloc_new _ _)) (ptCells_one _) (by decide) (by unfold maxLen; omega) (by omega) (by have := HMB.out.size; simp; omega) (wb.heap.size + 1) (by simp) ?_)
                  intro g1 cap1 wp1 hown1 hgrow1 hat1 hlt1
                  have HMp1 := hid_ ((HMB.out.alloc (.cells #[.int .i64 u.x, .int .i64 u.y] 24)).grown hgrow1 (fun k hk hl => absurd hl (by have := own_ge HOB.out hk; omega)))
                  have far1 : ∀ g t cs, Bk wb g t cs → (∀ k, (u8 : Value).ownBlock = some k → k ≠ g) → Bk wp1 g t cs := fun g t cs hb hne => (hgrow1.block g (by have := hb.lt; simp; omega) (fun e => hne g e.symm rfl)).trans (hb.alloc _)
                  have HOC := hid_ (show wp1.ownsRow wo.heap.size 24 2 (.slice (some ⟨g1, 0, none⟩) (T.length + 1) cap1) (T.length + 1) (ptCells (T ++ [u])) by rw [ptCells_append]; exact hown1)
                  have HGQ3 := hid_ (far1 _ _ _ HGQ2.out (fun k hk e => by have h1 := HBS.out k hk; omega))
                  have HGC3 := hid_ (far1 _ _ _ HGC2.out (fun k hk => own_ne HOB.out hk HGC2.out (by decide)))
                  clear hown1 hgrow1 hat1 hlt1 far1
                  clear x0 x1 xl y0 y1 yl
                  obtain ⟨x0, x1, -, -, xl⟩ := HGC3.out.two
                  obtain ⟨y0, y1, -, -, yl⟩ := HGQ3.out.two
                  go_wp2_with fail
                  refine (keeps_any hk4 b q _ HNQ.out).mono ?_
                  rintro e wk ⟨rfl, hmk⟩
                  have HMK := hid_ (HMp1.out.trans hmk (fun _ _ h => h))
                  have HOK := hid_ (own_keep HOC.out (fun k hk => hmk.block k (own_lt HOC.out hk) id))
                  have HGQK := hid_ (hmk.bk HGQ3.out id)
                  clear hmk x0 x1 xl y0 y1 yl
                  obtain ⟨y0, y1, -, -, yl⟩ := HGQK.out.two
                  rw [HKQ.out]
                  go_wp2_with (at_builtin; refine wpList_append_lies _ rfl (.tmp 74) (.tmp 76) 22 rfl wo.heap.size 24 i0 _ 2 16 Try.underlying22 HI0.out HZ0.out HZ1.out HZ2.out rfl (by decide) _ (T.length + 1) (ptCells (T ++ [u])) rfl (HOK.out.alloc _) ⟨wk.heap.size, 0, none⟩ 1 1 (ptCells [q]) rfl rfl (World.news_of_block (cs := #[.int .i64 q.x, .int .i64 q.y]) (t := 24) (fr := (0, 0)) (heap_alloc_new _ _)) (ptCells_one _) (by decide) (by unfold maxLen; omega) (by omega) (by have := HMK.out.size; simp; omega) (wk.heap.size + 1) (by simp) ?_)
                  intro g2 cap2 wp2 hown2 hgrow2 hat2 hlt2
                  have HMp2 := hid_ ((HMK.out.alloc (.cells #[.int .i64 q.x, .int .i64 q.y] 24)).grown hgrow2 (fun k hk hl => absurd hl (by have := own_ge HOK.out hk; omega)))
                  have HOD := hid_ hown2
                  clear hown2 hgrow2 hat2 hlt2 y0 y1 yl
                  go_wp2
                  go_roundw
                  case rel => exact ⟨j + 1, by omega, by go_num, by rw [HCT.out]; exact (by first | (rw [← ptCells_append] at HOD; simpa using HOD.out) | (have h := HOD.out; rw [← ptCells_append] at h; simpa using h)), HMp2.out⟩
                  case measure => simp [intOf]; omega
              · cases hkq : keepsF k b q
                · have HCT := hid_ (show cutTo k b r (j + 1) = T ++ ([acrossF k b p q] ++ []) by rw [cutTo_succ, HPB.out, HQG.out, ← HTE.out, cutPair, hkp, hkq]; rfl)
                  have HKP := hid_ hkp
                  have HKQ := hid_ hkq
                  clear hkp hkq
                  go_wp2_with fail
                  refine (across_any hk4 b p q _ HNP.out HNQ.out HLM.out (acrossR_unit (by rw [HKP.out, HKQ.out]; rfl)).2).mono ?_
                  rintro e wb ⟨rfl, hmb⟩
                  obtain ⟨u, hu⟩ : ∃ u, u = acrossF k b p q := ⟨_, rfl⟩
                  rw [← hu] at HCT ⊢
                  have HMB := hid_ (HMA.out.trans hmb (fun _ _ h => h))
                  have HOB := hid_ (own_keep HOA.out (fun k hk => hmb.block k (own_lt HOA.out hk) id))
                  have HGQ2 := hid_ (hmb.bk HGQ.out id)
                  have HGP2 := hid_ (hmb.bk HGP.out id)
                  have HGC2 := hid_ (hmb.bk HGC.out id)
                  clear hmb hu
                  clear x0 x1 xl y0 y1 yl z0 z1 zl
                  obtain ⟨x0, x1, -, -, xl⟩ := HGC2.out.two
                  obtain ⟨y0, y1, -, -, yl⟩ := HGQ2.out.two
                  go_wp2_with (at_builtin; refine wpList_append_lies _ rfl (.tmp 64) (.tmp 69) 22 rfl wo.heap.size 24 i0 _ 2 16 Try.underlying22 HI0.out HZ0.out HZ1.out HZ2.out rfl (by decide) _ T.length (ptCells T) rfl (HOB.out.alloc _) ⟨wb.heap.size, 0, none⟩ 1 1 (ptCells [u]) rfl rfl (World.news_of_block (cs := #[.int .i64 u.x, .int .i64 u.y]) (t := 24) (fr := (0, 0)) (heap_alloc_new _ _)) (ptCells_one _) (by decide) (by unfold maxLen; omega) (by omega) (by have := HMB.out.size; simp; omega) (wb.heap.size + 1) (by simp) ?_)
                  intro g3 cap3 wp3 hown3 hgrow3 hat3 hlt3
                  have HMp3 := hid_ ((HMB.out.alloc (.cells #[.int .i64 u.x, .int .i64 u.y] 24)).grown hgrow3 (fun k hk hl => absurd hl (by have := own_ge HOB.out hk; omega)))
                  have far3 : ∀ g t cs, Bk wb g t cs → (∀ k, (u8 : Value).ownBlock = some k → k ≠ g) → Bk wp3 g t cs := fun g t cs hb hne => (hgrow3.block g (by have := hb.lt; simp; omega) (fun e => hne g e.symm rfl)).trans (hb.alloc _)
                  have HOC := hid_ (show wp3.ownsRow wo.heap.size 24 2 (.slice (some ⟨g3, 0, none⟩) (T.length + 1) cap3) (T.length + 1) (ptCells (T ++ [u])) by rw [ptCells_append]; exact hown3)
                  have HGQ3 := hid_ (far3 _ _ _ HGQ2.out (fun k hk e => by have h1 := HBS.out k hk; omega))
                  have HGC3 := hid_ (far3 _ _ _ HGC2.out (fun k hk => own_ne HOB.out hk HGC2.out (by decide)))
                  clear hown3 hgrow3 hat3 hlt3 far3
                  clear x0 x1 xl y0 y1 yl
                  obtain ⟨x0, x1, -, -, xl⟩ := HGC3.out.two
                  obtain ⟨y0, y1, -, -, yl⟩ := HGQ3.out.two
                  go_wp2_with fail
                  refine (keeps_any hk4 b q _ HNQ.out).mono ?_
                  rintro e wk ⟨rfl, hmk⟩
                  have HMK := hid_ (HMp3.out.trans hmk (fun _ _ h => h))
                  have HOK := hid_ (own_keep HOC.out (fun k hk => hmk.block k (own_lt HOC.out hk) id))
                  have HGQK := hid_ (hmk.bk HGQ3.out id)
                  clear hmk x0 x1 xl y0 y1 yl
                  obtain ⟨y0, y1, -, -, yl⟩ := HGQK.out.two
                  rw [HKQ.out]
                  clear y0 y1 yl
                  go_wp2
                  go_roundw
                  case rel => exact ⟨j + 1, by omega, by go_num, by rw [HCT.out]; exact (by have h := HOK.out; simpa using h), HMK.out⟩
                  case measure => simp [intOf]; omega
                · have HCT := hid_ (show cutTo k b r (j + 1) = T ++ ([] ++ [q]) by rw [cutTo_succ, HPB.out, HQG.out, ← HTE.out, cutPair, hkp, hkq]; rfl)
                  have HKP := hid_ hkp
                  have HKQ := hid_ hkq
                  clear hkp hkq
                  clear x0 x1 xl y0 y1 yl z0 z1 zl
                  obtain ⟨x0, x1, -, -, xl⟩ := HGC.out.two
                  obtain ⟨y0, y1, -, -, yl⟩ := HGQ.out.two
                  go_wp2_with fail
                  refine (keeps_any hk4 b q _ HNQ.out).mono ?_
                  rintro e wk ⟨rfl, hmk⟩
                  have HMK := hid_ (HMA.out.trans hmk (fun _ _ h => h))
                  have HOK := hid_ (own_keep HOA.out (fun k hk => hmk.block k (own_lt HOA.out hk) id))
                  have HGQK := hid_ (hmk.bk HGQ.out id)
                  clear hmk x0 x1 xl y0 y1 yl
                  obtain ⟨y0, y1, -, -, yl⟩ := HGQK.out.two
                  rw [HKQ.out]
                  go_wp2_with (at_builtin; refine wpList_append_lies _ rfl (.tmp 74) (.tmp 76) 22 rfl wo.heap.size 24 i0 _ 2 16 Try.underlying22 HI0.out HZ0.out HZ1.out HZ2.out rfl (by decide) _ T.length (ptCells T) rfl (HOK.out.alloc _) ⟨wk.heap.size, 0, none⟩ 1 1 (ptCells [q]) rfl rfl (World.news_of_block (cs := #[.int .i64 q.x, .int .i64 q.y]) (t := 24) (fr := (0, 0)) (heap_alloc_new _ _)) (ptCells_one _) (by decide) (by unfold maxLen; omega) (by omega) (by have := HMK.out.size; simp; omega) (wk.heap.size + 1) (by simp) ?_)
                  intro g4 cap4 wp4 hown4 hgrow4 hat4 hlt4
                  have HMp4 := hid_ ((HMK.out.alloc (.cells #[.int .i64 q.x, .int .i64 q.y] 24)).grown hgrow4 (fun k hk hl => absurd hl (by have := own_ge HOK.out hk; omega)))
                  have HOD := hid_ hown4
                  clear hown4 hgrow4 hat4 hlt4 y0 y1 yl
                  go_wp2
                  go_roundw
                  case rel => exact ⟨j + 1, by omega, by go_num, by rw [HCT.out]; exact (by first | (rw [← ptCells_append] at HOD; simpa using HOD.out) | (have h := HOD.out; rw [← ptCells_append] at h; simpa using h)), HMp4.out⟩
                  case measure => simp [intOf]; omega

          · have hje : j = m := by omega
            subst hje
            obtain ⟨A2, c2, hv, hpa, -⟩ := OwnPts.form (show OwnPts wi u8 (cutTo k b r j) from own_base HOI.out)
            subst hv
            have HPA2 := hid_ hpa
            have hcu : cuts b l (k + 1) = cutTo k b r j := by show cutF k b (cuts b l k) = _; rw [← HRE.out, cutF, HRM.out]
            have HCU := hid_ hcu
            have hwo : w.heap.size ≤ wo.heap.size := by have := HMO.out.size; omega
            clear hpa hcu
            go_wp2
            go_roundw
            case rel =>
              refine ⟨k + 1, A2, c2, by omega, by go_num, by rw [HCU.out], by rw [HCU.out]; exact HPA2.out, fun _ => ⟨by rw [HCU.out]; exact own_base HOI.out, fun g hg => Nat.le_trans hwo (own_ge HOI.out hg)⟩, HMO.out.trans HMI.out (fun _ _ h => h)⟩
            case measure => simp [intOf]; omega
      · have hk5 : k = 4 := by omega
        subst hk5
        obtain ⟨ho4, hb4⟩ := HOR.out (by omega)
        have HO4 := hid_ ho4
        clear ho4 hb4 hk4
        go_wp2_with fail
        refine (clone_any (w := wr) (v := .slice A' m c') (l := r) (by have h := HO4.out; rw [HRM.out] at h; exact h) (by rw [HRM.out]; omega)).mono ?_
        rintro e w2 ⟨v2, rfl, ho2, hb2, hm2⟩
        have HO2 := hid_ ho2
        have HB2 := hid_ hb2
        have HM2 := hid_ (HMR.out.trans hm2 (fun _ _ h => h))
        have HS2 := hid_ (HMR.out.size)
        clear ho2 hb2 hm2
        go_wp2_with fail
        refine (compact_any HO2.out).mono ?_
        rintro e w3 ⟨v3, rfl, ho3, hb3, hm3⟩
        have HO3 := hid_ ho3
        have HB3 := hid_ (show ∀ k, v3.ownBlock = some k → w.heap.size ≤ k from fun k hk => by have h1 := HB2.out k (hb3 k hk); have h2 := HS2.out; omega)
        have HM3 := hid_ (HM2.out.trans hm3 (fun i hi hk => by have h1 := HB2.out i hk; have h2 := HS2.out; omega))
        have hdl := dd_len_le r
        rw [HRM.out] at hdl
        obtain ⟨r3, hr3⟩ : ∃ r3, r3 = dd r := ⟨_, rfl⟩
        rw [← hr3] at HO3 hdl
        have HR3 := hid_ hr3
        clear ho3 hb3 hm3 hr3
        obtain ⟨A3, c3, hv3, hp3, -⟩ := HO3.out.form
        subst hv3
        clear hp3
        have heq := run_pt_eq
        go_wp2_with fail
        go_loopw [0] (fun v0 wx => ∃ (x : List Pt) (m2 : Nat), x.length = m2 ∧ v0 = .slice A3 m2 c3 ∧ OwnPts wx v0 x ∧ trim x x.length = trim r3 r3.length ∧ m2 ≤ m ∧ Mod Nothing w1 wx) (fun v0 _ => lenOf v0)
        case atStart => exact ⟨r3, _, rfl, rfl, HO3.out, rfl, hdl, HM3.out⟩
        case round =>
          obtain ⟨x, m2, hxm, rfl, hox, htx, hmx, hmdx⟩ := hrel
          have HOX := hid_ hox
          have HTX := hid_ htx
          have HMX := hid_ hmdx
          have HXM := hid_ hxm
          clear hox htx hmdx hxm
          obtain ⟨wx, rfl⟩ : ∃ wx : World, wx = wr := ⟨_, rfl⟩
          by_cases h1 : 1 < m2
          · have hd1 : decide (1 < (m2 : Int)) = true := decide_eq_true (by omega)
            obtain ⟨p, hp⟩ : ∃ p, x[0]? = some p := ⟨_, List.getElem?_eq_getElem (by rw [HXM.out]; omega)⟩
            obtain ⟨q, hq⟩ : ∃ q, x[m2 - 1]? = some q := ⟨_, List.getElem?_eq_getElem (by rw [HXM.out]; omega)⟩
            obtain ⟨Ax, cx, hvx, hpx, hxl⟩ := HOX.out.form
            have hAx : A3 = Ax := by injection hvx
            have HCX := hid_ (show m2 ≤ c3 by have h1 : c3 = cx := by injection hvx
                                              have h2 := HXM.out
                                              omega)
            clear hvx hxl
            subst hAx
            obtain ⟨bb, off, hA, hbb, p0, p1⟩ := hpx 0 p hp
            obtain ⟨bb', off', hA', hbb', q0, q1⟩ := hpx (m2 - 1) q hq
            rw [hA] at hA'
            simp only [Option.some.injEq, Addr.mk.injEq] at hA'
            obtain ⟨rfl, rfl, -⟩ := hA'
            subst hA
            have HP1 := hid_ hp
            have HQ1 := hid_ hq
            rw [Nat.zero_mul] at p0 p1
            have v1 : IntKind.i64.wrap ((m2 : Int) - 1) = (m2 : Int) - 1 := IntWalk.i64_in _ (by omega)
            have v2 : ((m2 : Int) - 1).toNat = m2 - 1 := by omega
            have v3 : (0 : Int) ≤ (m2 : Int) - 1 := by omega
            have v4 : (m2 : Int) - 1 < m2 := by omega
            have v5 : (1 : Int) ≤ (m2 : Int) := by omega
            have v6 : 0 < m2 := by omega
            clear hp hq hpx hbb'
            go_wp2_with fail
            refine wp_region_stepsC [.slice (some ⟨bb, off, none⟩) m2 c3, .int .i64 m2, .bool true, .bool true, .slice (some ⟨bb, off, none⟩) m2 c3, .pointer (some ⟨bb, off, none⟩), ptV p, .slice (some ⟨bb, off, none⟩) m2 c3, .slice (some ⟨bb, off, none⟩) m2 c3, .int .i64 m2, .int .i64 ((m2 : Int) - 1), .pointer (some ⟨bb, off + (m2 - 1) * 2, none⟩), ptV q, .bool (ptEqB p q), .bool (ptEqB p q)] (Mod Nothing wx) (by kernel_rfl) (by kernel_rfl)
              (by simp only [putAll, Act.put, List.setIfInBounds_toArray, List.set_cons_zero, List.set_cons_succ]; rfl) ((Mod.refl _ _).drew) ?_ ?_
            · refine ⟨?_, ?_, ?_, ?_, ?_, ?_, ?_, ?_, ?_, ?_, ?_, ?_, ?_, ?_, ?_, trivial⟩
              · intro L w' hun hw hC
                refine step_yes rfl ?_
                have HC := hid_ hC
                clear hun hw hC
                go_simp
                exact still rfl HC.out
              · intro L w' hun hw hC
                refine step_yes rfl ?_
                have HC := hid_ hC
                clear hun hw hC
                go_simp
                exact still rfl HC.out
              · intro L w' hun hw hC
                refine step_yes rfl ?_
                have HC := hid_ hC
                clear hun hw hC
                go_simp
                exact still rfl HC.out
              · intro L w' hun hw hC
                refine step_yes rfl ?_
                have HC := hid_ hC
                clear hun hw hC
                go_simp
                exact still rfl HC.out
              · intro L w' hun hw hC
                refine step_yes rfl ?_
                have HC := hid_ hC
                clear hun hw hC
                go_simp
                exact still rfl HC.out
              · intro L w' hun hw hC
                refine step_yes rfl ?_
                have HC := hid_ hC
                clear hun hw hC
                go_simp
                exact still rfl HC.out
              · intro L w' hun hw hC
                refine step_yes rfl ?_
                have HC := hid_ hC
                have c0 := (HC.out.cell (p := ⟨bb, off, none⟩) hbb id).trans p0
                have c1 := (HC.out.cell (p := ⟨bb, off + 1, none⟩) hbb id).trans p1
                clear hun hw hC
                go_simp
                exact still rfl HC.out
              · intro L w' hun hw hC
                refine step_yes rfl ?_
                have HC := hid_ hC
                clear hun hw hC
                go_simp
                exact still rfl HC.out
              · intro L w' hun hw hC
                refine step_yes rfl ?_
                have HC := hid_ hC
                clear hun hw hC
                go_simp
                exact still rfl HC.out
              · intro L w' hun hw hC
                refine step_yes rfl ?_
                have HC := hid_ hC
                clear hun hw hC
                go_simp
                exact still rfl HC.out
              · intro L w' hun hw hC
                refine step_yes rfl ?_
                have HC := hid_ hC
                clear hun hw hC
                go_simp
                exact still rfl HC.out
              · intro L w' hun hw hC
                refine step_yes rfl ?_
                have HC := hid_ hC
                clear hun hw hC
                go_simp
                exact still rfl HC.out
              · intro L w' hun hw hC
                refine step_yes rfl ?_
                have HC := hid_ hC
                have c0 := (HC.out.cell (p := ⟨bb, off + (m2 - 1) * 2, none⟩) hbb id).trans q0
                have c1 := (HC.out.cell (p := ⟨bb, off + (m2 - 1) * 2 + 1, none⟩) hbb id).trans q1
                clear hun hw hC
                go_simp
                exact still rfl HC.out
              · intro L w' hun hw hC
                refine step_yes rfl ?_
                have HC := hid_ hC
                clear hun hw hC
                go_simp
                exact still rfl HC.out
              · intro L w' hun hw hC
                refine step_yes rfl ?_
                have HC := hid_ hC
                clear hun hw hC
                go_simp
                exact still rfl HC.out
            · intro wy hmY
              have HWY := hid_ hmY
              clear hmY v1 v2 v3 v4 v5 v6 p0 p1 q0 q1 hbb hd1
              have HMXY := hid_ (HMX.out.trans HWY.out (fun _ _ h => h))
              have HOXY := hid_ (own_keep HOX.out (fun k hk => HWY.out.block k (own_lt HOX.out hk) id) : OwnPts wy _ x)
              cases hpq : ptEqB p q
              · have hne : p ≠ q := fun e => by rw [ptEqB_iff.2 e] at hpq; cases hpq
                have htr : trim x x.length = x := by
                  obtain ⟨mm, hmm⟩ : ∃ mm, x.length = mm + 1 := ⟨x.length - 1, by have := HXM.out; omega⟩
                  rw [hmm, trim, if_neg]
                  rintro ⟨_, he⟩
                  rw [List.head?_eq_getElem?, List.getLast?_eq_getElem?, HXM.out, HP1.out, HQ1.out] at he
                  injection he with he
                  exact hne he
                have HTR := hid_ (htr.symm.trans HTX.out)
                clear htr hpq
                by_cases h3 : m2 < 3
                · go_wp2
                  go_returns
                  rw [HE.out, show aroundF (cuts b l 4) = [] by unfold aroundF; rw [← HRE.out, ← HR3.out, ← HTR.out, if_pos (by rw [HXM.out]; exact h3)]]
                  exact ⟨_, rfl, World.ownsRow_nil _ _ _ _, (fun k hk => by simp [Value.ownBlock] at hk), HM1.out.trans HMXY.out (fun _ _ h => h)⟩
                · go_wp2
                  go_returns
                  rw [HE.out, show aroundF (cuts b l 4) = x by unfold aroundF; rw [← HRE.out, ← HR3.out, ← HTR.out, if_neg (by rw [HXM.out]; exact h3)]]
                  exact ⟨_, rfl, HOXY.out, (fun k hk => HB3.out k hk), HM1.out.trans HMXY.out (fun _ _ h => h)⟩
              · have he2 : p = q := ptEqB_iff.1 hpq
                subst he2
                have htr : trim x x.length = trim x.dropLast x.dropLast.length := by
                  obtain ⟨mm, hmm⟩ : ∃ mm, x.length = mm + 1 := ⟨x.length - 1, by have := HXM.out; omega⟩
                  have hlx : x.dropLast.length = mm := by rw [List.length_dropLast, hmm]; rfl
                  rw [hlx, hmm, trim, if_pos]
                  exact ⟨by rw [HXM.out]; exact h1, by rw [List.head?_eq_getElem?, List.getLast?_eq_getElem?, HXM.out, HP1.out, HQ1.out]⟩
                have HTR := hid_ (htr.symm.trans HTX.out)
                have HOD := hid_ (OwnPts.drop HOXY.out (by rw [HXM.out]; omega))
                have v4 : (m2 : Int) - 1 ≤ c3 := by have := HCX.out; omega
                have v3 : (0 : Int) ≤ (m2 : Int) - 1 := by omega
                have v2 : ((m2 : Int) - 1).toNat = m2 - 1 := by omega
                clear htr hpq
                go_wp2
                go_roundw
                case rel => exact ⟨x.dropLast, m2 - 1, by rw [List.length_dropLast, HXM.out], rfl, HOD.out, HTR.out, by omega, HMXY.out⟩
                case measure => simp [lenOf]; omega
          · have hd1 : decide (1 < (m2 : Int)) = false := decide_eq_false (by omega)
            have h3 : m2 < 3 := by omega
            go_wp2_with fail
            refine wp_region_stepsC [.slice A3 m2 c3, .int .i64 m2, .bool false, .bool false, undef, undef, undef, undef, undef, undef, undef, undef, undef, undef, .bool false] (Mod Nothing wx) (by kernel_rfl) (by kernel_rfl)
              (by simp only [putAll, Act.put, List.setIfInBounds_toArray, List.set_cons_zero, List.set_cons_succ]; rfl) ((Mod.refl _ _).drew) ?_ ?_
            · refine ⟨?_, ?_, ?_, ?_, ?_, ?_, ?_, ?_, ?_, ?_, ?_, ?_, ?_, ?_, ?_, trivial⟩
              · intro L w' hun hw hC
                refine step_yes rfl ?_
                have HC := hid_ hC
                clear hun hw hC
                go_simp
                exact still rfl HC.out
              · intro L w' hun hw hC
                refine step_yes rfl ?_
                have HC := hid_ hC
                clear hun hw hC
                go_simp
                exact still rfl HC.out
              · intro L w' hun hw hC
                refine step_yes rfl ?_
                have HC := hid_ hC
                clear hun hw hC
                go_simp
                exact still rfl HC.out
              · intro L w' hun hw hC
                refine step_yes rfl ?_
                have HC := hid_ hC
                clear hun hw hC
                go_simp
                exact still rfl HC.out
              · intro L w' hun hw hC
                exact step_no rfl (still rfl hC)
              · intro L w' hun hw hC
                exact step_no rfl (still rfl hC)
              · intro L w' hun hw hC
                exact step_no rfl (still rfl hC)
              · intro L w' hun hw hC
                exact step_no rfl (still rfl hC)
              · intro L w' hun hw hC
                exact step_no rfl (still rfl hC)
              · intro L w' hun hw hC
                exact step_no rfl (still rfl hC)
              · intro L w' hun hw hC
                exact step_no rfl (still rfl hC)
              · intro L w' hun hw hC
                exact step_no rfl (still rfl hC)
              · intro L w' hun hw hC
                exact step_no rfl (still rfl hC)
              · intro L w' hun hw hC
                exact step_no rfl (still rfl hC)
              · intro L w' hun hw hC
                refine step_yes rfl ?_
                have HC := hid_ hC
                clear hun hw hC
                go_simp
                exact still rfl HC.out
            · intro wy hmY
              have HMXY := hid_ (HMX.out.trans hmY (fun _ _ h => h))
              have htr : trim x x.length = x := by
                cases hx : x.length with
                | zero => rfl
                | succ mm => rw [trim, if_neg (by rw [HXM.out]; omega)]
              have HTR := hid_ (htr.symm.trans HTX.out)
              clear hmY hd1 htr
              go_wp2
              go_returns
              rw [HE.out, show aroundF (cuts b l 4) = [] by unfold aroundF; rw [← HRE.out, ← HR3.out, ← HTR.out, if_pos (by rw [HXM.out]; exact h3)]]
              exact ⟨_, rfl, World.ownsRow_nil _ _ _ _, (fun k hk => by simp [Value.ownBlock] at hk), HM1.out.trans HMXY.out (fun _ _ h => h)⟩
end Go.Proofs.Ytadiajlegajclaa
