/- ClipCorners, walked. -/
import Derived.Test.YtadiajlegajclaaV6
import Derived.Test.YtadiajlegajclaaP9
set_option linter.unusedVariables false
set_option linter.unusedSimpArgs false
namespace Go.Proofs.Ytadiajlegajclaa
open Go.RowKit

theorem sub_skip {p x : Pt} {C M : List Pt} (h : List.Sublist (p :: C) (x :: M)) (hne : x ≠ p) : List.Sublist (p :: C) M := by
  cases h with
  | cons _ h => exact h
  | cons_cons _ h => exact absurd rfl hne
theorem PtsAt.news {w : World} {B : Nat} {bk off : Nat} {l : List Pt} (h : PtsAt w B (some ⟨bk, off, none⟩) l) : ∀ j u, (ptCells l)[j]? = some u → w.cell? ((⟨bk, off, none⟩ : Addr).add j) = some u := by
  intro j u hu
  have hj := (List.getElem?_eq_some_iff.1 hu).1
  rw [ptCells_length] at hj
  have hadd : (⟨bk, off, none⟩ : Addr).add j = ⟨bk, off + j, none⟩ := by unfold Addr.add; split <;> simp_all
  rw [hadd]
  obtain ⟨p, hp⟩ : ∃ p, l[j / 2]? = some p := ⟨_, List.getElem?_eq_getElem (by omega)⟩
  obtain ⟨b, o, hA, _, c0, c1⟩ := h _ p hp
  simp only [Option.some.injEq, Addr.mk.injEq] at hA
  obtain ⟨rfl, rfl, -⟩ := hA
  obtain ⟨h0, h1⟩ := ptCells_at l _ p hp
  rcases Nat.mod_two_eq_zero_or_one j with hm | hm
  · have e : j / 2 * 2 = j := by omega
    rw [e] at c0 h0
    rw [c0, ← h0, hu]
  · have e : j / 2 * 2 + 1 = j := by omega
    rw [e] at h1
    rw [show off + j / 2 * 2 + 1 = off + j by omega] at c1
    rw [c1, ← h1, hu]

theorem flat_take_len {α : Type} (ls : List (List α)) (k : Nat) : (ls.take k).flatten.length ≤ ls.flatten.length := by
  have h : ls.flatten = (ls.take k).flatten ++ (ls.drop k).flatten := by rw [← List.flatten_append, List.take_append_drop]
  rw [h, List.length_append]
  omega
theorem flat_le {α : Type} {m : Nat} : ∀ (ls : List (List α)), (∀ x ∈ ls, x.length ≤ m) → ls.flatten.length ≤ ls.length * m
  | [], _ => by simp
  | x :: ls, h => by
    have h1 := h x List.mem_cons_self
    have h2 := flat_le ls (fun y hy => h y (List.mem_cons_of_mem _ hy))
    rw [List.flatten_cons, List.length_append, List.length_cons, Nat.succ_mul]
    omega
theorem lineF_flat (l : List Pt) (b : Bx) (h : l.length ≤ 100) : (lineF l b).flatten.length ≤ 100000 := by
  have h1 := flat_le (lineF l b) (m := 200) (fun x hx => Nat.le_trans (lineF_each l b x hx) (by omega))
  have h2 : (lineF l b).length ≤ 101 := Nat.le_trans (lineF_len l b) (by omega)
  have h3 : (lineF l b).length * 200 ≤ 101 * 200 := Nat.mul_le_mul_right _ h2
  omega

set_option maxRecDepth 100000 in
set_option maxHeartbeats 16000000 in
theorem law7_any (w : World) (A : Option Addr) (c n : Nat) (l : List Pt) (b : Bx) (hn : l.length = n) (hl : PtsAt w w.heap.size A l) (hm : n ≤ 8796093021952) (hwf : ∀ p ∈ l, PtWf p) (hb : BxWf b) :
    Calls Try.prog 7 #[.slice A n c, bxV b] w (BPost true w) := by
  have CL := hid_ (fun w' (hn' : n ≤ 100) (hm' : Mod Nothing w w') => line_any (w := w') A c n l b hn ((hl.mod hm' (Nat.le_refl _) (fun _ _ => id)).mono hm'.size) (by omega) hwf hb)
  have CMV := hid_ (fun w' (hm' : Mod Nothing w w') => moved_any w' A c n l ⟨0, 0⟩ hn ((hl.mod hm' (Nat.le_refl _) (fun _ _ => id)).mono hm'.size) (by omega))
  have CDF := hid_ (fun w' (hn' : n ≤ 100) (hm' : Mod Nothing w w') => different_any w' A c n l hn ((hl.mod hm' (Nat.le_refl _) (fun _ _ => id)).mono hm'.size) (by omega))
  have HL := hid_ hl
  have HN := hid_ hn
  have vm : (n : Int) ≤ 9223372036854775807 := by omega
  have heq := run_pt_eq
  obtain ⟨i0, hi0, hz0, hz1, hz2⟩ := info_parts Try.info24
  have HI0 := hid_ hi0
  have HZ0 := hid_ hz0
  have HZ1 := hid_ hz1
  have HZ2 := hid_ hz2
  clear hl hn hwf hb hi0 hz0 hz1 hz2
  go_enter Try.func7, Try.ntmps7
  go_wp2_with fail
  have HB := hid_ (Bk.new w 26 [.int .i64 b.lo.x, .int .i64 b.lo.y, .int .i64 b.hi.x, .int .i64 b.hi.y])
  have HM0 := hid_ ((Mod.refl Nothing w).alloc (.cells #[.int .i64 b.lo.x, .int .i64 b.lo.y, .int .i64 b.hi.x, .int .i64 b.hi.y] 26))
  refine (head_any _).mono ?_
  rintro e w1 ⟨rfl, hm1⟩
  have HM1 := hid_ (HM0.out.trans hm1 (fun _ _ h => h))
  have HB1 := hid_ (hm1.bk HB.out id)
  clear hm1 HM0 HB
  go_wp2_with fail
  refine (CMV.out _ HM1.out).mono ?_
  rintro e w2 ⟨v, rfl, ⟨AP, np, cp, rfl⟩, hov, hm2⟩
  have HM2 := hid_ (HM1.out.trans hm2 (fun _ _ h => h))
  have HB2 := hid_ (hm2.bk HB1.out id)
  clear hm2 hov HB1 HM1
  by_cases hn2 : 100 < n
  · go_wp2
    go_returns
    exact ⟨rfl, HM2.out⟩
  have hn3 : n ≤ 100 := by omega
  obtain ⟨b0, b1, b2, b3, -, -, -, -, hbl⟩ := HB2.out.four
  go_wp2_with fail
  refine (rproper_any b _).mono ?_
  rintro e w3 ⟨rfl, hm3⟩
  have HM3 := hid_ (HM2.out.trans hm3 (fun _ _ h => h))
  have HB3 := hid_ (hm3.bk HB2.out id)
  clear hm3 b0 b1 b2 b3 hbl HB2 HM2
  cases hbx : boxB b with
  | false =>
    go_wp2
    go_returns
    exact ⟨rfl, HM3.out⟩
  | true =>
  have HBX := hid_ hbx
  clear hbx
  cases hmv : movedB l ⟨0, 0⟩ with
  | false =>
    go_wp2
    go_returns
    exact ⟨rfl, HM3.out⟩
  | true =>
  have HMV := hid_ (moved_near hmv).1
  clear hmv
  go_wp2_with fail
  refine (CDF.out _ hn3 HM3.out).mono ?_
  rintro e w4 ⟨v, rfl, ho, hm4⟩
  obtain ⟨AD, cd, e4, hpd⟩ := ho.pv
  subst e4
  have HM4 := hid_ (HM3.out.trans hm4 (fun _ _ h => h))
  have HB4 := hid_ (hm4.bk HB3.out id)
  clear hm4 ho hpd HB3 HM3
  obtain ⟨nd, hnd⟩ : ∃ nd, nd = (dd l).length := ⟨_, rfl⟩
  rw [← hnd]
  have HND := hid_ hnd
  clear hnd
  by_cases hdn : nd = n
  · have hdb : ((nd : Int) != n) = false := by rw [hdn]; simp
    have HNB0 := hid_ (nb_of_len (l := l) (by rw [← HND.out, HN.out, hdn]))
    have HCI := hid_ (corners_in (show propB l b = true from by unfold propB; rw [HBX.out, HMV.out]; rfl) HNB0.out)
    obtain ⟨b0, b1, b2, b3, -, -, -, -, hbl⟩ := HB4.out.four
    go_wp2_with fail
    refine (CL.out _ hn3 HM4.out).mono ?_
    rintro e w5 ⟨v, rfl, hp, hm5⟩
    obtain ⟨AV, cv, rfl, hrd⟩ := hp.rd
    have HM5 := hid_ (HM4.out.trans hm5 (fun _ _ h => h))
    have HB5 := hid_ (hm5.bk HB4.out id)
    have HR := hid_ hrd
    have hl2 : ∀ x ∈ lineF l b, 2 ≤ x.length := fun x hx => (lineF_in l b x hx).2
    have hflat : (lineF l b).flatten.length ≤ 100000 := lineF_flat l b (by rw [HN.out]; omega)
    have hpl : (lineF l b).length ≤ 101 := Nat.le_trans (lineF_len l b) (by rw [HN.out]; omega)
    obtain ⟨ls, hls⟩ : ∃ ls, ls = lineF l b := ⟨_, rfl⟩
    rw [← hls] at HR HCI hl2 hflat hpl ⊢
    have HL2 := hid_ hl2
    have HFL := hid_ hflat
    clear hm5 hp hrd hls b0 b1 b2 b3 hbl hl2 hflat HB4 HM4
    go_wp2_with fail
    go_loopw [8, 10] (fun v i wr => ∃ k : Nat, k ≤ ls.length ∧ i = .int .i64 k ∧ wr.ownsRow w5.heap.size 24 2 v (ls.take k).flatten.length (ptCells (ls.take k).flatten) ∧ Mod Nothing w5 wr) (fun _ i _ => ls.length - (intOf i).toNat)
    case atStart => exact ⟨0, Nat.zero_le _, rfl, World.ownsRow_nil _ _ _ _, Mod.refl _ _⟩
    case round =>
      obtain ⟨k, hk, rfl, hown, hmd⟩ := hrel
      have HO := hid_ hown
      have HM := hid_ hmd
      clear hown hmd
      by_cases hlt : k < ls.length
      · obtain ⟨x, hx⟩ : ∃ x, ls[k]? = some x := ⟨_, List.getElem?_eq_getElem hlt⟩
        obtain ⟨bb, off, A1, c1, hA1, hbb, p0, hpp⟩ := (HR.out.mod HM.out) k x hx
        have hx2 := HL2.out x (List.mem_of_getElem? hx)
        have htk : (ls.take (k + 1)).flatten = (ls.take k).flatten ++ x := by rw [List.take_add_one, hx]; simp
        have hle : (ls.take (k + 1)).flatten.length ≤ 100000 := Nat.le_trans (flat_take_len ls (k + 1)) HFL.out
        rw [htk, List.length_append] at hle
        obtain ⟨tl, htl⟩ : ∃ tl, (ls.take k).flatten.length = tl := ⟨_, rfl⟩
        rw [htl] at hle HO
        have HTL := hid_ htl
        clear htl
        have HTK := hid_ htk
        obtain ⟨y, hy⟩ : ∃ y, x[0]? = some y := ⟨_, List.getElem?_eq_getElem (by omega)⟩
        obtain ⟨xb, xo, hA2, _, _, _⟩ := hpp 0 y hy
        subst hA1
        subst hA2
        have HPP := hid_ hpp
        have v1 : (0 : Int) ≤ (k : Int) := by omega
        have v2 : (k : Int) < ls.length := by omega
        clear hx hpp hy htk
        obtain ⟨nx, hnx⟩ : ∃ nx, nx = x.length := ⟨_, rfl⟩
        rw [← hnx] at p0 hx2 hle
        have HNX := hid_ hnx
        clear hnx
        go_wp2_with (at_builtin; refine wpList_append_lies _ rfl (.tmp 57) (.tmp 61) 22 rfl w5.heap.size 24 i0 _ 2 16 Try.underlying22 HI0.out HZ0.out HZ1.out HZ2.out rfl (by decide) _ tl (ptCells (ls.take k).flatten) rfl HO.out ⟨xb, xo, none⟩ nx c1 (ptCells x) rfl (by rw [ptCells_length, HNX.out]) HPP.out.news (ptCells_one _) (by omega) (by unfold maxLen; omega) (by omega) HM.out.size wr.heap.size rfl ?_)
        intro g1 cap1 wp1 hown1 hgrow1 hat1 hlt1
        have HM1 := hid_ (HM.out.grown hgrow1 (fun k hk hl => absurd hl (by have := own_ge HO.out hk; omega)))
        have HOC := hid_ (show wp1.ownsRow w5.heap.size 24 2 (.slice (some ⟨g1, 0, none⟩) (tl + nx) cap1) (ls.take (k + 1)).flatten.length (ptCells (ls.take (k + 1)).flatten) by rw [HTK.out, ptCells_append, List.length_append, ← HNX.out, HTL.out]; exact hown1)
        clear hown1 hgrow1 hat1 hlt1 p0
        go_wp2
        go_roundw
        case rel => exact ⟨k + 1, by omega, by go_num, HOC.out, HM1.out⟩
        case measure => simp [intOf]; omega
      · have hkn : k = ls.length := by omega
        subst hkn
        rw [List.take_length] at HO
        obtain ⟨all, hall⟩ : ∃ all, all = ls.flatten := ⟨_, rfl⟩
        rw [← hall] at HO HCI HFL
        obtain ⟨AA, ca, hv, hat, hcap⟩ := (show OwnPts wr _ all from own_base HO.out).form
        obtain ⟨na, hna⟩ : ∃ na, all.length = na := ⟨_, rfl⟩
        rw [hna] at hv hcap
        subst hv
        have HNA := hid_ hna
        have hnal : na ≤ 100000 := by rw [← hna]; exact HFL.out
        obtain ⟨w0, hw0⟩ : ∃ w0, w0 = wr := ⟨_, rfl⟩
        rw [← hw0] at hat ⊢
        have HM6 := hid_ (show Mod Nothing w w0 from by rw [hw0]; exact HM5.out.trans HM.out (fun _ _ h => h))
        have HB6 := hid_ (show Bk w0 w.heap.size 26 _ from by rw [hw0]; exact HM.out.bk HB5.out id)
        have HAT := hid_ hat
        have HLP := hid_ ((HL.out.mod HM6.out (Nat.le_refl _) (fun _ _ => id)).mono HM6.out.size)
        have hnear := List.all_eq_true.1 HMV.out
        have HNEAR := hid_ (show ∀ p ∈ l, PtNear p from fun p hp => by have := nearB_iff.1 (hnear p hp); exact ⟨⟨this.1, this.2.1⟩, this.2.2.1, this.2.2.2⟩)
        have HNB := hid_ (show PtNear b.lo ∧ PtNear b.hi from by
          have h := HBX.out
          unfold boxB at h
          simp only [Bool.and_eq_true] at h
          have h1 := nearB_iff.1 h.1.1
          have h2 := nearB_iff.1 h.1.2
          exact ⟨⟨⟨h1.1, h1.2.1⟩, h1.2.2.1, h1.2.2.2⟩, ⟨h2.1, h2.2.1⟩, h2.2.2.1, h2.2.2.2⟩)
        clear hat hnear HM HO HR hall hna hw0 HB5 HM5 HL2 HFL
        go_wp2_with fail
        go_loopw [11, 12] (fun kv i wr => ∃ j k : Nat, j ≤ na ∧ k ≤ n ∧ kv = .int .i64 j ∧ i = .int .i64 k ∧ List.Sublist (cornFrom b l k) (all.drop j) ∧ Mod Nothing w0 wr) (fun _ i _ => n - (intOf i).toNat)
        case atStart => exact ⟨0, 0, Nat.zero_le _, Nat.zero_le _, rfl, rfl, HCI.out, Mod.refl _ _⟩
        case round =>
          obtain ⟨j0, k, hj0, hk, rfl, rfl, hsb, hmd⟩ := hrel
          have HSB := hid_ hsb
          have HM := hid_ hmd
          have HBW := hid_ (hmd.bk HB6.out id)
          clear hsb hmd
          by_cases hlt : k < n
          · obtain ⟨p, hp⟩ : ∃ p, l[k]? = some p := ⟨_, List.getElem?_eq_getElem (by rw [HN.out]; exact hlt)⟩
            obtain ⟨bb, off, hA, hbb0, p0, p1⟩ := (HLP.out.mod HM.out (Nat.le_refl _) (fun _ _ => id)) k p hp
            have hbbwr : bb < wr.heap.size := Nat.lt_of_lt_of_le hbb0 HM.out.size
            have v1 : (0 : Int) ≤ (k : Int) := by omega
            have v2 : (k : Int) < n := by omega
            have HPG := hid_ hp
            have HPO := hid_ (ptOf_get hp)
            have HNP := hid_ (HNEAR.out p (List.mem_of_getElem? hp))
            subst hA
            clear hp hbb0
            go_wp2_with fail
            refine wp_region_stepsC [.slice (some ⟨bb, off, none⟩) n c, .int .i64 k, .pointer (some ⟨bb, off + k * 2, none⟩), ptV p, bxV b, .bool (inB p b), .bool (!inB p b)] (Mod Nothing wr) (by kernel_rfl) (by kernel_rfl)
              (by simp only [putAll, Act.put, List.setIfInBounds_toArray, List.set_cons_zero, List.set_cons_succ]; rfl) ((Mod.refl _ _).drew) ?_ ?_
            · refine ⟨?_, ?_, ?_, ?_, ?_, ?_, ?_, trivial⟩
              · intro L w' hun hw hC
                refine step_yes rfl ?_
                have HC := hid_ hC
                clear hun hw hC
                go_simp
                exact still rfl HC.out
              · intro L w' hun hw hC
                refine step_yes rfl ?_
                have HC := hid_ hC
                clear hun hw hC
                go_simp
                exact still rfl HC.out
              · intro L w' hun hw hC
                refine step_yes rfl ?_
                have HC := hid_ hC
                clear hun hw hC
                go_simp
                exact still rfl HC.out
              · intro L w' hun hw hC
                refine step_yes rfl ?_
                have HC := hid_ hC
                have c0 := (HC.out.cell (p := ⟨bb, off + k * 2, none⟩) hbbwr id).trans p0
                have c1 := (HC.out.cell (p := ⟨bb, off + k * 2 + 1, none⟩) hbbwr id).trans p1
                clear hun hw hC
                go_simp
                exact still rfl HC.out
              · intro L w' hun hw hC
                refine step_yes rfl ?_
                have HC := hid_ hC
                obtain ⟨b0, b1, b2, b3, -, -, -, -, hbl⟩ := (HC.out.bk HBW.out id).four
                clear hun hw hC
                go_simp
                exact still rfl HC.out
              · intro L w' hun hw hC
                refine step_yes rfl ?_
                have HC := hid_ hC
                clear hun hw hC
                go_simp
                refine (rin_any p b _).mono ?_
                rintro e w3 ⟨rfl, hm⟩
                exact still rfl (HC.out.trans hm (fun _ _ h => h))
              · intro L w' hun hw hC
                refine step_yes rfl ?_
                have HC := hid_ hC
                clear hun hw hC
                go_simp
                exact still rfl HC.out
            · intro wq hmY
              have HM := hid_ (HM.out.trans hmY (fun _ _ h => h))
              have HBW := hid_ (hmY.bk HBW.out id)
              obtain ⟨p0, p1⟩ : wq.cell? ⟨bb, off + k * 2, none⟩ = some (.int .i64 p.x) ∧ wq.cell? ⟨bb, off + k * 2 + 1, none⟩ = some (.int .i64 p.y) := ⟨(hmY.cell (p := ⟨bb, off + k * 2, none⟩) hbbwr id).trans p0, (hmY.cell (p := ⟨bb, off + k * 2 + 1, none⟩) hbbwr id).trans p1⟩
              have hbbwq : bb < wq.heap.size := Nat.lt_of_lt_of_le hbbwr hmY.size
              clear hmY
              clear hbbwr
              cases hin : inB p b with
              | false =>
                have HSB2 := hid_ (show List.Sublist (cornFrom b l (k + 1)) (all.drop j0) from by
                  have h1 := HSB.out
                  rw [cornFrom_succ b l (by rw [HN.out]; exact hlt)] at h1
                  have h2 : corn b l k = [] := by unfold corn; rw [HPO.out, hin]; rfl
                  rw [h2] at h1
                  exact h1)
                go_wp2
                go_roundw
                case rel => exact ⟨j0, k + 1, by omega, by omega, by go_num, by go_num, HSB2.out, HM.out⟩
                case measure => simp [intOf]; omega
              | true =>
                have HIN := hid_ hin
                clear hin
                by_cases h0 : 0 < k
                · obtain ⟨q, hq⟩ : ∃ q, l[k - 1]? = some q := ⟨_, List.getElem?_eq_getElem (by rw [HN.out]; omega)⟩
                  obtain ⟨bb', off', hA', hbb', q0, q1⟩ := (HLP.out.mod HM.out (Nat.le_refl _) (fun _ _ => id)) (k - 1) q hq
                  simp only [Option.some.injEq, Addr.mk.injEq] at hA'
                  obtain ⟨rfl, rfl, -⟩ := hA'
                  have HQO := hid_ (ptOf_get hq)
                  have HNQ := hid_ (HNEAR.out q (List.mem_of_getElem? hq))
                  clear hq hbb'
                  have v3 : IntKind.i64.wrap ((k : Int) - 1) = (k : Int) - 1 := IntWalk.i64_in _ (by omega)
                  have v4 : ((k : Int) - 1).toNat = k - 1 := by omega
                  have v5 : (0 : Int) ≤ (k : Int) - 1 := by omega
                  have v6 : (k : Int) - 1 < n := by omega
                  have v9 : decide (0 < (k : Int)) = true := decide_eq_true (by omega)
                  have v10 : (1 : Int) ≤ (k : Int) := by omega
                  obtain ⟨R1, R2, R3, hR⟩ : ∃ R1 R2 R3, rPiece q p b = (R1, R2, R3) := ⟨_, _, _, rfl⟩
                  have CPC := hid_ (fun w' => rpiece_any q p b w' HNQ.out HNP.out HNB.out.1 HNB.out.2)
                  rw [hR] at CPC
                  unfold RPost at CPC
                  dsimp only at CPC
                  have HR18 := hid_ hR
                  clear hR
                  go_wp2_with fail
                  refine wp_region_ghost (0, 0) (fun γ => [.slice (some ⟨bb, off, none⟩) n c, .int .i64 k, .int .i64 ((k : Int) - 1), .pointer (some ⟨bb, off + (k - 1) * 2, none⟩), ptV q, .slice (some ⟨bb, off, none⟩) n c, .int .i64 k, .pointer (some ⟨bb, off + k * 2, none⟩), ptV p, bxV b, .tuple #[ptV R1, ptV R2, .bool R3], .tuple #[ptV R1, ptV R2, .bool R3], ptV R1, ptV R2, .bool R3, .pointer (some ⟨γ.1, 0, none⟩), .pointer (some ⟨γ.2, 0, none⟩), undef, undef, .bool R3]) (New2 wq 24 (.int .i64 0) (.int .i64 0) 15 17 (.int .i64 R1.x) (.int .i64 R1.y) 16 18 (.int .i64 R2.x) (.int .i64 R2.y)) (by kernel_rfl) (by kernel_rfl)
                    (fun γ => by simp only [putAll, Act.put, List.setIfInBounds_toArray, List.set_cons_zero, List.set_cons_succ]; rfl) (⟨(Mod.refl _ _).drew, fun h => by simp at h, fun h => by simp at h, fun h => by simp at h, fun h => by simp at h, fun h => by simp at h⟩) ?_ ?_
                  · refine ⟨?_, ?_, ?_, ?_, ?_, ?_, ?_, ?_, ?_, ?_, ?_, ?_, ?_, ?_, ?_, ?_, ?_, ?_, ?_, ?_, trivial⟩
                    · intro L γ w' hun hw hC
                      refine step_yes rfl ?_
                      have HC := hid_ hC
                      clear hun hw hC
                      go_simp
                      exact turned γ rfl (HC.out.skip (n := 0) (by decide) (by decide) (by decide) (by decide) (Mod.refl _ _))
                    · intro L γ w' hun hw hC
                      refine step_yes rfl ?_
                      have HC := hid_ hC
                      clear hun hw hC
                      go_simp
                      exact turned γ rfl (HC.out.skip (n := 1) (by decide) (by decide) (by decide) (by decide) (Mod.refl _ _))
                    · intro L γ w' hun hw hC
                      refine step_yes rfl ?_
                      have HC := hid_ hC
                      clear hun hw hC
                      go_simp
                      exact turned γ rfl (HC.out.skip (n := 2) (by decide) (by decide) (by decide) (by decide) (Mod.refl _ _))
                    · intro L γ w' hun hw hC
                      refine step_yes rfl ?_
                      have HC := hid_ hC
                      clear hun hw hC
                      go_simp
                      exact turned γ rfl (HC.out.skip (n := 3) (by decide) (by decide) (by decide) (by decide) (Mod.refl _ _))
                    · intro L γ w' hun hw hC
                      refine step_yes rfl ?_
                      have HC := hid_ hC
                      have c0 := (HC.out.base.cell (p := ⟨bb, off + (k - 1) * 2, none⟩) hbbwq id).trans q0
                      have c1 := (HC.out.base.cell (p := ⟨bb, off + (k - 1) * 2 + 1, none⟩) hbbwq id).trans q1
                      clear hun hw hC
                      go_simp
                      exact turned γ rfl (HC.out.skip (n := 4) (by decide) (by decide) (by decide) (by decide) (Mod.refl _ _))
                    · intro L γ w' hun hw hC
                      refine step_yes rfl ?_
                      have HC := hid_ hC
                      clear hun hw hC
                      go_simp
                      exact turned γ rfl (HC.out.skip (n := 5) (by decide) (by decide) (by decide) (by decide) (Mod.refl _ _))
                    · intro L γ w' hun hw hC
                      refine step_yes rfl ?_
                      have HC := hid_ hC
                      clear hun hw hC
                      go_simp
                      exact turned γ rfl (HC.out.skip (n := 6) (by decide) (by decide) (by decide) (by decide) (Mod.refl _ _))
                    · intro L γ w' hun hw hC
                      refine step_yes rfl ?_
                      have HC := hid_ hC
                      clear hun hw hC
                      go_simp
                      exact turned γ rfl (HC.out.skip (n := 7) (by decide) (by decide) (by decide) (by decide) (Mod.refl _ _))
                    · intro L γ w' hun hw hC
                      refine step_yes rfl ?_
                      have HC := hid_ hC
                      have c0 := (HC.out.base.cell (p := ⟨bb, off + k * 2, none⟩) hbbwq id).trans p0
                      have c1 := (HC.out.base.cell (p := ⟨bb, off + k * 2 + 1, none⟩) hbbwq id).trans p1
                      clear hun hw hC
                      go_simp
                      exact turned γ rfl (HC.out.skip (n := 8) (by decide) (by decide) (by decide) (by decide) (Mod.refl _ _))
                    · intro L γ w' hun hw hC
                      refine step_yes rfl ?_
                      have HC := hid_ hC
                      obtain ⟨b0, b1, b2, b3, -, -, -, -, hbl⟩ := (HC.out.base.bk HBW.out id).four
                      clear hun hw hC
                      go_simp
                      exact turned γ rfl (HC.out.skip (n := 9) (by decide) (by decide) (by decide) (by decide) (Mod.refl _ _))
                    · intro L γ w' hun hw hC
                      refine step_yes rfl ?_
                      have HC := hid_ hC
                      have CC := hid_ (CPC.out w')
                      clear hun hw hC
                      go_simp
                      refine CC.out.mono ?_
                      rintro e w3 ⟨rfl, hm⟩
                      exact turned γ rfl (HC.out.skip (n := 10) (by decide) (by decide) (by decide) (by decide) hm)
                    · intro L γ w' hun hw hC
                      refine step_yes rfl ?_
                      have HC := hid_ hC
                      clear hun hw hC
                      go_simp
                      exact turned γ rfl (HC.out.skip (n := 11) (by decide) (by decide) (by decide) (by decide) (Mod.refl _ _))
                    · intro L γ w' hun hw hC
                      refine step_yes rfl ?_
                      have HC := hid_ hC
                      clear hun hw hC
                      go_simp
                      exact turned γ rfl (HC.out.skip (n := 12) (by decide) (by decide) (by decide) (by decide) (Mod.refl _ _))
                    · intro L γ w' hun hw hC
                      refine step_yes rfl ?_
                      have HC := hid_ hC
                      clear hun hw hC
                      go_simp
                      exact turned γ rfl (HC.out.skip (n := 13) (by decide) (by decide) (by decide) (by decide) (Mod.refl _ _))
                    · intro L γ w' hun hw hC
                      refine step_yes rfl ?_
                      have HC := hid_ hC
                      clear hun hw hC
                      go_simp
                      exact turned γ rfl (HC.out.skip (n := 14) (by decide) (by decide) (by decide) (by decide) (Mod.refl _ _))
                    · intro L γ w' hun hw hC
                      refine step_yes rfl ?_
                      have HC := hid_ hC
                      have HU := hid_ hun
                      clear hun hw hC
                      go_simp
                      exact turned (w'.heap.size, γ.2) rfl (HC.out.new1 (by decide) (by decide) (by decide) HU.out)
                    · intro L γ w' hun hw hC
                      refine step_yes rfl ?_
                      have HC := hid_ hC
                      have HU := hid_ hun
                      clear hun hw hC
                      go_simp
                      exact turned (γ.1, w'.heap.size) rfl (HC.out.new2 (by decide) (by decide) (by decide) HU.out)
                    · intro L γ w' hun hw hC
                      refine step_yes rfl ?_
                      have hl : L.getD 15 false = true := hw ⟨15, .data⟩ (by simp) rfl
                      have hb := (hC.one hl).2
                      rw [getD_un hun] at hb
                      obtain ⟨c0, c1, f0, f1, hlt0⟩ := hb.two
                      have HC := hid_ hC
                      have HU := hid_ hun
                      have HLL := hid_ hl
                      clear hun hw hC hl hb
                      go_simp
                      exact turned γ rfl (HC.out.put1 (by decide) (by decide) (by decide) HU.out HLL.out)
                    · intro L γ w' hun hw hC
                      refine step_yes rfl ?_
                      have hl : L.getD 16 false = true := hw ⟨16, .data⟩ (by simp) rfl
                      have hb := (hC.two hl).2
                      rw [getD_un hun] at hb
                      obtain ⟨c0, c1, f0, f1, hlt0⟩ := hb.two
                      have HC := hid_ hC
                      have HU := hid_ hun
                      have HLL := hid_ hl
                      clear hun hw hC hl hb
                      go_simp
                      exact turned γ rfl (HC.out.put2 (by decide) (by decide) (by decide) HU.out HLL.out)
                    · intro L γ w' hun hw hC
                      refine step_yes rfl ?_
                      have HC := hid_ hC
                      clear hun hw hC
                      go_simp
                      exact turned γ rfl (HC.out.skip (n := 19) (by decide) (by decide) (by decide) (by decide) (Mod.refl _ _))
                  · intro L γ wa hall hC
                    have hg1 := (hC.one (hall 15 (by decide))).2
                    have hg2 := (hC.two (hall 16 (by decide))).2
                    rw [if_pos (hall 17 (by decide))] at hg1
                    rw [if_pos (hall 18 (by decide))] at hg2
                    have HG1 := hid_ hg1
                    have HG2 := hid_ hg2
                    have hmY := hC.base
                    obtain ⟨ga, gb⟩ := γ
                    have HM := hid_ (HM.out.trans hmY (fun _ _ h => h))
                    have HBW := hid_ (hmY.bk HBW.out id)
                    obtain ⟨p0, p1⟩ : wa.cell? ⟨bb, off + k * 2, none⟩ = some (.int .i64 p.x) ∧ wa.cell? ⟨bb, off + k * 2 + 1, none⟩ = some (.int .i64 p.y) := ⟨(hmY.cell (p := ⟨bb, off + k * 2, none⟩) hbbwq id).trans p0, (hmY.cell (p := ⟨bb, off + k * 2 + 1, none⟩) hbbwq id).trans p1⟩
                    have hbbwa : bb < wa.heap.size := Nat.lt_of_lt_of_le hbbwq hmY.size
                    clear hmY hC hall hg1 hg2 q0 q1
                    go_wp2_with fail
                    refine wp_region_late [(9, 13)] (.bool true) (fun γ => [.bool true, .bool true, ptV R1, .slice (some ⟨bb, off, none⟩) n c, .int .i64 k, .pointer (some ⟨bb, off + k * 2, none⟩), ptV p, .bool (ptEqB R1 p), .bool (ptEqB R1 p), γ]) (LateC 9 wa (.bool true) (.bool (true && ptEqB R1 p))) (by kernel_rfl) (by kernel_rfl)
                      (fun γ => by simp only [putAll, Act.put, List.setIfInBounds_toArray, List.set_cons_zero, List.set_cons_succ]; rfl) ?_ ⟨(Mod.refl _ _).drew, fun _ => rfl, fun h => by simp at h, fun h => by simp at h⟩ ?_ ?_
                    · intro L γ w' hC p hp hl
                      simp only [List.mem_cons, List.not_mem_nil, or_false] at hp
                      subst hp
                      show some γ = some (.bool true)
                      rw [hC.q hl]
                    · refine ⟨?_, ?_, ?_, ?_, ?_, ?_, ?_, ?_, ?_, ?_, trivial⟩
                      · intro L γ w' hun hw hC
                        refine step_yes rfl ?_
                        obtain rfl := hC.none hun
                        have HC := hid_ hC
                        clear hun hw hC
                        go_simp
                        exact turned _ rfl (HC.out.skip (i := 0) (by decide) (Mod.refl _ _))
                      · intro L γ w' hun hw hC
                        refine step_yes rfl ?_
                        have HC := hid_ hC
                        clear hun hw hC
                        go_simp
                        exact turned γ rfl (HC.out.skip (i := 1) (by decide) (Mod.refl _ _))
                      · intro L γ w' hun hw hC
                        refine step_yes rfl ?_
                        have HC := hid_ hC
                        obtain ⟨d0, d1, -, -, hdl⟩ := (HC.out.base.bk HG1.out id).two
                        clear hun hw hC
                        go_simp
                        exact turned γ rfl (HC.out.skip (i := 2) (by decide) (Mod.refl _ _))
                      · intro L γ w' hun hw hC
                        refine step_yes rfl ?_
                        have HC := hid_ hC
                        clear hun hw hC
                        go_simp
                        exact turned γ rfl (HC.out.skip (i := 3) (by decide) (Mod.refl _ _))
                      · intro L γ w' hun hw hC
                        refine step_yes rfl ?_
                        have HC := hid_ hC
                        clear hun hw hC
                        go_simp
                        exact turned γ rfl (HC.out.skip (i := 4) (by decide) (Mod.refl _ _))
                      · intro L γ w' hun hw hC
                        refine step_yes rfl ?_
                        have HC := hid_ hC
                        clear hun hw hC
                        go_simp
                        exact turned γ rfl (HC.out.skip (i := 5) (by decide) (Mod.refl _ _))
                      · intro L γ w' hun hw hC
                        refine step_yes rfl ?_
                        have HC := hid_ hC
                        have c0 := (HC.out.base.cell (p := ⟨bb, off + k * 2, none⟩) hbbwa id).trans p0
                        have c1 := (HC.out.base.cell (p := ⟨bb, off + k * 2 + 1, none⟩) hbbwa id).trans p1
                        clear hun hw hC
                        go_simp
                        exact turned γ rfl (HC.out.skip (i := 6) (by decide) (Mod.refl _ _))
                      · intro L γ w' hun hw hC
                        refine step_yes rfl ?_
                        have HC := hid_ hC
                        clear hun hw hC
                        go_simp
                        exact turned γ rfl (HC.out.skip (i := 7) (by decide) (Mod.refl _ _))
                      · intro L γ w' hun hw hC
                        refine step_yes rfl ?_
                        have HC := hid_ hC
                        clear hun hw hC
                        go_simp
                        exact turned γ rfl (HC.out.skip (i := 8) (by decide) (Mod.refl _ _))
                      · intro L γ w' hun hw hC
                        refine step_yes rfl ?_
                        have h0 : L.getD 0 false = true := hw ⟨0, .phase⟩ (by simp) rfl
                        have HC := hid_ (hC.last hun h0)
                        clear hun hw hC h0
                        go_simp
                        exact turned _ rfl HC.out
                    · intro L γ wb hall hC
                      obtain rfl := hC.r (hall 9 (by decide))
                      have hmY := hC.base
                      clear hall hC
                      obtain ⟨e1, he1⟩ : ∃ e1, e1 = (true && ptEqB R1 p) := ⟨_, rfl⟩
                      rw [← he1]
                      have HE1 := hid_ he1
                      clear he1
                      have HM := hid_ (HM.out.trans hmY (fun _ _ h => h))
                      have HBW := hid_ (hmY.bk HBW.out id)
                      obtain ⟨p0, p1⟩ : wb.cell? ⟨bb, off + k * 2, none⟩ = some (.int .i64 p.x) ∧ wb.cell? ⟨bb, off + k * 2 + 1, none⟩ = some (.int .i64 p.y) := ⟨(hmY.cell (p := ⟨bb, off + k * 2, none⟩) hbbwa id).trans p0, (hmY.cell (p := ⟨bb, off + k * 2 + 1, none⟩) hbbwa id).trans p1⟩
                      have hbbwb : bb < wb.heap.size := Nat.lt_of_lt_of_le hbbwa hmY.size
                      clear hmY
                      have HF := hid_ (show (decide (k = 0) || ptEqB (rPiece (ptOf l (k - 1)) (ptOf l k) b).1 (ptOf l k)) = e1 from by
                        rw [decide_eq_false (show ¬ k = 0 by omega), HPO.out, HQO.out, HR18.out, Bool.false_or]
                        exact HE1.out.symm)
                      clear v3 v4 v5 v6 v9 v10
                      by_cases h1 : k + 1 < n
                      · obtain ⟨q, hq⟩ : ∃ q, l[k + 1]? = some q := ⟨_, List.getElem?_eq_getElem (by rw [HN.out]; omega)⟩
                        obtain ⟨bb', off', hA', hbb', q0, q1⟩ := (HLP.out.mod HM.out (Nat.le_refl _) (fun _ _ => id)) (k + 1) q hq
                        simp only [Option.some.injEq, Addr.mk.injEq] at hA'
                        obtain ⟨rfl, rfl, -⟩ := hA'
                        have HQO := hid_ (ptOf_get hq)
                        have HNQ := hid_ (HNEAR.out q (List.mem_of_getElem? hq))
                        clear hq hbb'
                        have w3 : IntKind.i64.wrap ((k : Int) + 1) = (k : Int) + 1 := IntWalk.i64_in _ (by omega)
                        have w4 : ((k : Int) + 1).toNat = k + 1 := by omega
                        have w5 : (0 : Int) ≤ (k : Int) + 1 := by omega
                        have w6 : (k : Int) + 1 < n := by omega
                        have w7 : decide ((k : Int) + 1 < n) = true := decide_eq_true w6
                        obtain ⟨R1, R2, R3, hR⟩ : ∃ R1 R2 R3, rPiece p q b = (R1, R2, R3) := ⟨_, _, _, rfl⟩
                        have CPC := hid_ (fun w' => rpiece_any p q b w' HNP.out HNQ.out HNB.out.1 HNB.out.2)
                        rw [hR] at CPC
                        unfold RPost at CPC
                        dsimp only at CPC
                        have HR21 := hid_ hR
                        clear hR
                        go_wp2_with fail
                        refine wp_region_ghost (0, 0) (fun γ => [.slice (some ⟨bb, off, none⟩) n c, .int .i64 k, .pointer (some ⟨bb, off + k * 2, none⟩), ptV p, .slice (some ⟨bb, off, none⟩) n c, .int .i64 k, .int .i64 ((k : Int) + 1), .pointer (some ⟨bb, off + (k + 1) * 2, none⟩), ptV q, bxV b, .tuple #[ptV R1, ptV R2, .bool R3], .tuple #[ptV R1, ptV R2, .bool R3], ptV R1, ptV R2, .bool R3, .pointer (some ⟨γ.1, 0, none⟩), .pointer (some ⟨γ.2, 0, none⟩), undef, undef, .bool R3]) (New2 wb 24 (.int .i64 0) (.int .i64 0) 15 17 (.int .i64 R1.x) (.int .i64 R1.y) 16 18 (.int .i64 R2.x) (.int .i64 R2.y)) (by kernel_rfl) (by kernel_rfl)
                          (fun γ => by simp only [putAll, Act.put, List.setIfInBounds_toArray, List.set_cons_zero, List.set_cons_succ]; rfl) (⟨(Mod.refl _ _).drew, fun h => by simp at h, fun h => by simp at h, fun h => by simp at h, fun h => by simp at h, fun h => by simp at h⟩) ?_ ?_
                        · refine ⟨?_, ?_, ?_, ?_, ?_, ?_, ?_, ?_, ?_, ?_, ?_, ?_, ?_, ?_, ?_, ?_, ?_, ?_, ?_, ?_, trivial⟩
                          · intro L γ w' hun hw hC
                            refine step_yes rfl ?_
                            have HC := hid_ hC
                            clear hun hw hC
                            go_simp
                            exact turned γ rfl (HC.out.skip (n := 0) (by decide) (by decide) (by decide) (by decide) (Mod.refl _ _))
                          · intro L γ w' hun hw hC
                            refine step_yes rfl ?_
                            have HC := hid_ hC
                            clear hun hw hC
                            go_simp
                            exact turned γ rfl (HC.out.skip (n := 1) (by decide) (by decide) (by decide) (by decide) (Mod.refl _ _))
                          · intro L γ w' hun hw hC
                            refine step_yes rfl ?_
                            have HC := hid_ hC
                            clear hun hw hC
                            go_simp
                            exact turned γ rfl (HC.out.skip (n := 2) (by decide) (by decide) (by decide) (by decide) (Mod.refl _ _))
                          · intro L γ w' hun hw hC
                            refine step_yes rfl ?_
                            have HC := hid_ hC
                            have c0 := (HC.out.base.cell (p := ⟨bb, off + k * 2, none⟩) hbbwb id).trans p0
                            have c1 := (HC.out.base.cell (p := ⟨bb, off + k * 2 + 1, none⟩) hbbwb id).trans p1
                            clear hun hw hC
                            go_simp
                            exact turned γ rfl (HC.out.skip (n := 3) (by decide) (by decide) (by decide) (by decide) (Mod.refl _ _))
                          · intro L γ w' hun hw hC
                            refine step_yes rfl ?_
                            have HC := hid_ hC
                            clear hun hw hC
                            go_simp
                            exact turned γ rfl (HC.out.skip (n := 4) (by decide) (by decide) (by decide) (by decide) (Mod.refl _ _))
                          · intro L γ w' hun hw hC
                            refine step_yes rfl ?_
                            have HC := hid_ hC
                            clear hun hw hC
                            go_simp
                            exact turned γ rfl (HC.out.skip (n := 5) (by decide) (by decide) (by decide) (by decide) (Mod.refl _ _))
                          · intro L γ w' hun hw hC
                            refine step_yes rfl ?_
                            have HC := hid_ hC
                            clear hun hw hC
                            go_simp
                            exact turned γ rfl (HC.out.skip (n := 6) (by decide) (by decide) (by decide) (by decide) (Mod.refl _ _))
                          · intro L γ w' hun hw hC
                            refine step_yes rfl ?_
                            have HC := hid_ hC
                            clear hun hw hC
                            go_simp
                            exact turned γ rfl (HC.out.skip (n := 7) (by decide) (by decide) (by decide) (by decide) (Mod.refl _ _))
                          · intro L γ w' hun hw hC
                            refine step_yes rfl ?_
                            have HC := hid_ hC
                            have c0 := (HC.out.base.cell (p := ⟨bb, off + (k + 1) * 2, none⟩) hbbwb id).trans q0
                            have c1 := (HC.out.base.cell (p := ⟨bb, off + (k + 1) * 2 + 1, none⟩) hbbwb id).trans q1
                            clear hun hw hC
                            go_simp
                            exact turned γ rfl (HC.out.skip (n := 8) (by decide) (by decide) (by decide) (by decide) (Mod.refl _ _))
                          · intro L γ w' hun hw hC
                            refine step_yes rfl ?_
                            have HC := hid_ hC
                            obtain ⟨b0, b1, b2, b3, -, -, -, -, hbl⟩ := (HC.out.base.bk HBW.out id).four
                            clear hun hw hC
                            go_simp
                            exact turned γ rfl (HC.out.skip (n := 9) (by decide) (by decide) (by decide) (by decide) (Mod.refl _ _))
                          · intro L γ w' hun hw hC
                            refine step_yes rfl ?_
                            have HC := hid_ hC
                            have CC := hid_ (CPC.out w')
                            clear hun hw hC
                            go_simp
                            refine CC.out.mono ?_
                            rintro e w3 ⟨rfl, hm⟩
                            exact turned γ rfl (HC.out.skip (n := 10) (by decide) (by decide) (by decide) (by decide) hm)
                          · intro L γ w' hun hw hC
                            refine step_yes rfl ?_
                            have HC := hid_ hC
                            clear hun hw hC
                            go_simp
                            exact turned γ rfl (HC.out.skip (n := 11) (by decide) (by decide) (by decide) (by decide) (Mod.refl _ _))
                          · intro L γ w' hun hw hC
                            refine step_yes rfl ?_
                            have HC := hid_ hC
                            clear hun hw hC
                            go_simp
                            exact turned γ rfl (HC.out.skip (n := 12) (by decide) (by decide) (by decide) (by decide) (Mod.refl _ _))
                          · intro L γ w' hun hw hC
                            refine step_yes rfl ?_
                            have HC := hid_ hC
                            clear hun hw hC
                            go_simp
                            exact turned γ rfl (HC.out.skip (n := 13) (by decide) (by decide) (by decide) (by decide) (Mod.refl _ _))
                          · intro L γ w' hun hw hC
                            refine step_yes rfl ?_
                            have HC := hid_ hC
                            clear hun hw hC
                            go_simp
                            exact turned γ rfl (HC.out.skip (n := 14) (by decide) (by decide) (by decide) (by decide) (Mod.refl _ _))
                          · intro L γ w' hun hw hC
                            refine step_yes rfl ?_
                            have HC := hid_ hC
                            have HU := hid_ hun
                            clear hun hw hC
                            go_simp
                            exact turned (w'.heap.size, γ.2) rfl (HC.out.new1 (by decide) (by decide) (by decide) HU.out)
                          · intro L γ w' hun hw hC
                            refine step_yes rfl ?_
                            have HC := hid_ hC
                            have HU := hid_ hun
                            clear hun hw hC
                            go_simp
                            exact turned (γ.1, w'.heap.size) rfl (HC.out.new2 (by decide) (by decide) (by decide) HU.out)
                          · intro L γ w' hun hw hC
                            refine step_yes rfl ?_
                            have hl : L.getD 15 false = true := hw ⟨15, .data⟩ (by simp) rfl
                            have hb := (hC.one hl).2
                            rw [getD_un hun] at hb
                            obtain ⟨c0, c1, f0, f1, hlt0⟩ := hb.two
                            have HC := hid_ hC
                            have HU := hid_ hun
                            have HLL := hid_ hl
                            clear hun hw hC hl hb
                            go_simp
                            exact turned γ rfl (HC.out.put1 (by decide) (by decide) (by decide) HU.out HLL.out)
                          · intro L γ w' hun hw hC
                            refine step_yes rfl ?_
                            have hl : L.getD 16 false = true := hw ⟨16, .data⟩ (by simp) rfl
                            have hb := (hC.two hl).2
                            rw [getD_un hun] at hb
                            obtain ⟨c0, c1, f0, f1, hlt0⟩ := hb.two
                            have HC := hid_ hC
                            have HU := hid_ hun
                            have HLL := hid_ hl
                            clear hun hw hC hl hb
                            go_simp
                            exact turned γ rfl (HC.out.put2 (by decide) (by decide) (by decide) HU.out HLL.out)
                          · intro L γ w' hun hw hC
                            refine step_yes rfl ?_
                            have HC := hid_ hC
                            clear hun hw hC
                            go_simp
                            exact turned γ rfl (HC.out.skip (n := 19) (by decide) (by decide) (by decide) (by decide) (Mod.refl _ _))
                        · intro L γ wc hall hC
                          have hg1 := (hC.one (hall 15 (by decide))).2
                          have hg2 := (hC.two (hall 16 (by decide))).2
                          rw [if_pos (hall 17 (by decide))] at hg1
                          rw [if_pos (hall 18 (by decide))] at hg2
                          have HG1 := hid_ hg1
                          have HG2 := hid_ hg2
                          have hmY := hC.base
                          obtain ⟨ga, gb⟩ := γ
                          have HM := hid_ (HM.out.trans hmY (fun _ _ h => h))
                          have HBW := hid_ (hmY.bk HBW.out id)
                          obtain ⟨p0, p1⟩ : wc.cell? ⟨bb, off + k * 2, none⟩ = some (.int .i64 p.x) ∧ wc.cell? ⟨bb, off + k * 2 + 1, none⟩ = some (.int .i64 p.y) := ⟨(hmY.cell (p := ⟨bb, off + k * 2, none⟩) hbbwb id).trans p0, (hmY.cell (p := ⟨bb, off + k * 2 + 1, none⟩) hbbwb id).trans p1⟩
                          have hbbwc : bb < wc.heap.size := Nat.lt_of_lt_of_le hbbwb hmY.size
                          clear hmY hC hall hg1 hg2 q0 q1
                          go_wp2_with fail
                          refine wp_merge (.bool (e1 && ptEqB R2 p)) (Mod Nothing wc) ?_ ?_
                          rotate_left
                          · intro Q' HQ0
                            have HQ := HQ0
                            clear HQ0 HE1
                            cases e1 with
                            | true =>
                              refine wp_region_late [(9, 13)] (.bool true) (fun γ => [.bool true, .bool true, ptV R2, .slice (some ⟨bb, off, none⟩) n c, .int .i64 k, .pointer (some ⟨bb, off + k * 2, none⟩), ptV p, .bool (ptEqB R2 p), .bool (ptEqB R2 p), γ]) (LateC 9 wc (.bool true) (.bool (true && ptEqB R2 p))) (by kernel_rfl) (by kernel_rfl)
                                (fun γ => by simp only [putAll, Act.put, List.setIfInBounds_toArray, List.set_cons_zero, List.set_cons_succ]; rfl) ?_ ⟨(Mod.refl _ _).drew, fun _ => rfl, fun h => by simp at h, fun h => by simp at h⟩ ?_ ?_
                              · intro L γ w' hC p hp hl
                                simp only [List.mem_cons, List.not_mem_nil, or_false] at hp
                                subst hp
                                show some γ = some (.bool true)
                                rw [hC.q hl]
                              · refine ⟨?_, ?_, ?_, ?_, ?_, ?_, ?_, ?_, ?_, ?_, trivial⟩
                                · intro L γ w' hun hw hC
                                  refine step_yes rfl ?_
                                  obtain rfl := hC.none hun
                                  have HC := hid_ hC
                                  clear hun hw hC
                                  go_simp
                                  exact turned _ rfl (HC.out.skip (i := 0) (by decide) (Mod.refl _ _))
                                · intro L γ w' hun hw hC
                                  refine step_yes rfl ?_
                                  have HC := hid_ hC
                                  clear hun hw hC
                                  go_simp
                                  exact turned γ rfl (HC.out.skip (i := 1) (by decide) (Mod.refl _ _))
                                · intro L γ w' hun hw hC
                                  refine step_yes rfl ?_
                                  have HC := hid_ hC
                                  obtain ⟨d0, d1, -, -, hdl⟩ := (HC.out.base.bk HG2.out id).two
                                  clear hun hw hC
                                  go_simp
                                  exact turned γ rfl (HC.out.skip (i := 2) (by decide) (Mod.refl _ _))
                                · intro L γ w' hun hw hC
                                  refine step_yes rfl ?_
                                  have HC := hid_ hC
                                  clear hun hw hC
                                  go_simp
                                  exact turned γ rfl (HC.out.skip (i := 3) (by decide) (Mod.refl _ _))
                                · intro L γ w' hun hw hC
                                  refine step_yes rfl ?_
                                  have HC := hid_ hC
                                  clear hun hw hC
                                  go_simp
                                  exact turned γ rfl (HC.out.skip (i := 4) (by decide) (Mod.refl _ _))
                                · intro L γ w' hun hw hC
                                  refine step_yes rfl ?_
                                  have HC := hid_ hC
                                  clear hun hw hC
                                  go_simp
                                  exact turned γ rfl (HC.out.skip (i := 5) (by decide) (Mod.refl _ _))
                                · intro L γ w' hun hw hC
                                  refine step_yes rfl ?_
                                  have HC := hid_ hC
                                  have c0 := (HC.out.base.cell (p := ⟨bb, off + k * 2, none⟩) hbbwc id).trans p0
                                  have c1 := (HC.out.base.cell (p := ⟨bb, off + k * 2 + 1, none⟩) hbbwc id).trans p1
                                  clear hun hw hC
                                  go_simp
                                  exact turned γ rfl (HC.out.skip (i := 6) (by decide) (Mod.refl _ _))
                                · intro L γ w' hun hw hC
                                  refine step_yes rfl ?_
                                  have HC := hid_ hC
                                  clear hun hw hC
                                  go_simp
                                  exact turned γ rfl (HC.out.skip (i := 7) (by decide) (Mod.refl _ _))
                                · intro L γ w' hun hw hC
                                  refine step_yes rfl ?_
                                  have HC := hid_ hC
                                  clear hun hw hC
                                  go_simp
                                  exact turned γ rfl (HC.out.skip (i := 8) (by decide) (Mod.refl _ _))
                                · intro L γ w' hun hw hC
                                  refine step_yes rfl ?_
                                  have h0 : L.getD 0 false = true := hw ⟨0, .phase⟩ (by simp) rfl
                                  have HC := hid_ (hC.last hun h0)
                                  clear hun hw hC h0
                                  go_simp
                                  exact turned _ rfl HC.out
                              · intro L γ wz hall hC
                                obtain rfl := hC.r (hall 9 (by decide))
                                have hmY := hC.base
                                clear hall hC
                                have h := HQ [.bool true, .bool true, ptV R2, .slice (some ⟨bb, off, none⟩) n c, .int .i64 k, .pointer (some ⟨bb, off + k * 2, none⟩), ptV p, .bool (ptEqB R2 p), .bool (ptEqB R2 p)] wz rfl hmY
                                simp only [List.cons_append, List.nil_append, putAll, Act.put, List.setIfInBounds_toArray, List.set_cons_zero, List.set_cons_succ] at h
                                exact h
                            | false =>
                              refine wp_region_late [(9, 13)] (.bool false) (fun γ => [.bool false, .bool false, undef, undef, undef, undef, undef, undef, .bool false, γ]) (LateC 9 wc (.bool false) (.bool (false && ptEqB R2 p))) (by kernel_rfl) (by kernel_rfl)
                                (fun γ => by simp only [putAll, Act.put, List.setIfInBounds_toArray, List.set_cons_zero, List.set_cons_succ]; rfl) ?_ ⟨(Mod.refl _ _).drew, fun _ => rfl, fun h => by simp at h, fun h => by simp at h⟩ ?_ ?_
                              · intro L γ w' hC p hp hl
                                simp only [List.mem_cons, List.not_mem_nil, or_false] at hp
                                subst hp
                                show some γ = some (.bool false)
                                rw [hC.q hl]
                              · refine ⟨?_, ?_, ?_, ?_, ?_, ?_, ?_, ?_, ?_, ?_, trivial⟩
                                · intro L γ w' hun hw hC
                                  refine step_yes rfl ?_
                                  obtain rfl := hC.none hun
                                  have HC := hid_ hC
                                  clear hun hw hC
                                  go_simp
                                  exact turned _ rfl (HC.out.skip (i := 0) (by decide) (Mod.refl _ _))
                                · intro L γ w' hun hw hC
                                  refine step_yes rfl ?_
                                  have HC := hid_ hC
                                  clear hun hw hC
                                  go_simp
                                  exact turned γ rfl (HC.out.skip (i := 1) (by decide) (Mod.refl _ _))
                                · intro L γ w' hun hw hC
                                  exact step_no rfl (turned γ rfl (hC.skip (i := 2) (by decide) (Mod.refl _ _)))
                                · intro L γ w' hun hw hC
                                  exact step_no rfl (turned γ rfl (hC.skip (i := 3) (by decide) (Mod.refl _ _)))
                                · intro L γ w' hun hw hC
                                  exact step_no rfl (turned γ rfl (hC.skip (i := 4) (by decide) (Mod.refl _ _)))
                                · intro L γ w' hun hw hC
                                  exact step_no rfl (turned γ rfl (hC.skip (i := 5) (by decide) (Mod.refl _ _)))
                                · intro L γ w' hun hw hC
                                  exact step_no rfl (turned γ rfl (hC.skip (i := 6) (by decide) (Mod.refl _ _)))
                                · intro L γ w' hun hw hC
                                  exact step_no rfl (turned γ rfl (hC.skip (i := 7) (by decide) (Mod.refl _ _)))
                                · intro L γ w' hun hw hC
                                  refine step_yes rfl ?_
                                  have HC := hid_ hC
                                  clear hun hw hC
                                  go_simp
                                  exact turned γ rfl (HC.out.skip (i := 8) (by decide) (Mod.refl _ _))
                                · intro L γ w' hun hw hC
                                  refine step_yes rfl ?_
                                  have h0 : L.getD 0 false = true := hw ⟨0, .phase⟩ (by simp) rfl
                                  have HC := hid_ (hC.last hun h0)
                                  clear hun hw hC h0
                                  go_simp
                                  exact turned _ rfl HC.out
                              · intro L γ wz hall hC
                                obtain rfl := hC.r (hall 9 (by decide))
                                have hmY := hC.base
                                clear hall hC
                                have h := HQ [.bool false, .bool false, undef, undef, undef, undef, undef, undef, .bool false] wz rfl hmY
                                simp only [List.cons_append, List.nil_append, putAll, Act.put, List.setIfInBounds_toArray, List.set_cons_zero, List.set_cons_succ] at h
                                exact h
                          intro vs wd hvs hmY
                          obtain ⟨x0, x1, x2, x3, x4, x5, x6, x7, x8, rfl⟩ := list9 (show vs.length = 9 from by simpa using hvs)
                          clear hvs
                          simp only [List.cons_append, List.nil_append, putAll, Act.put, List.setIfInBounds_toArray, List.set_cons_zero, List.set_cons_succ]
                          obtain ⟨e, he⟩ : ∃ e, e = (e1 && ptEqB R2 p) := ⟨_, rfl⟩
                          rw [← he]
                          have HE := hid_ he
                          clear he
                          have HM := hid_ (HM.out.trans hmY (fun _ _ h => h))
                          have HBW := hid_ (hmY.bk HBW.out id)
                          obtain ⟨p0, p1⟩ : wd.cell? ⟨bb, off + k * 2, none⟩ = some (.int .i64 p.x) ∧ wd.cell? ⟨bb, off + k * 2 + 1, none⟩ = some (.int .i64 p.y) := ⟨(hmY.cell (p := ⟨bb, off + k * 2, none⟩) hbbwc id).trans p0, (hmY.cell (p := ⟨bb, off + k * 2 + 1, none⟩) hbbwc id).trans p1⟩
                          have hbbwd : bb < wd.heap.size := Nat.lt_of_lt_of_le hbbwc hmY.size
                          clear hmY
                          have HAL := hid_ (show aloneB b l k = e from by
                            unfold aloneB
                            rw [HF.out, decide_eq_false (show ¬ l.length ≤ k + 1 by rw [HN.out]; omega), HPO.out, HQO.out, HR21.out, Bool.false_or]
                            exact HE.out.symm)
                          clear HE w3 w4 w5 w6 w7
                          cases e with
                          | true =>
                            have HSB2 := hid_ (show List.Sublist (cornFrom b l (k + 1)) (all.drop j0) from by
                              have h1 := HSB.out
                              rw [cornFrom_succ b l (by rw [HN.out]; exact hlt)] at h1
                              have h2 : corn b l k = [] := by unfold corn; rw [HAL.out]; simp
                              rw [h2] at h1
                              exact h1)
                            go_wp2
                            go_roundw
                            case rel => exact ⟨j0, k + 1, by omega, by omega, by go_num, by go_num, HSB2.out, HM.out⟩
                            case measure => simp [intOf]; omega
                          | false =>
                            have HSB2 := hid_ (show List.Sublist (p :: cornFrom b l (k + 1)) (all.drop j0) from by
                              have h1 := HSB.out
                              rw [cornFrom_succ b l (by rw [HN.out]; exact hlt)] at h1
                              have h2 : corn b l k = [p] := by unfold corn; rw [HAL.out, HPO.out, HIN.out]; rfl
                              rw [h2] at h1
                              exact h1)
                            go_wp2_with fail
                            go_loopw [11] (fun v wr => ∃ j : Nat, j ≤ na ∧ v = .int .i64 j ∧ List.Sublist (p :: cornFrom b l (k + 1)) (all.drop j) ∧ Mod Nothing w0 wr) (fun v _ => na - (intOf v).toNat)
                            case atStart => exact ⟨j0, by omega, rfl, HSB2.out, HM.out⟩
                            case round =>
                              obtain ⟨j, hj, rfl, hsb, hmi⟩ := hrel
                              have HSI := hid_ hsb
                              have HMI := hid_ hmi
                              clear hsb hmi p0 p1
                              have hjl : j < na := by
                                rcases Nat.lt_or_ge j na with h | h
                                · exact h
                                · have h1 := HSI.out
                                  rw [List.drop_eq_nil_of_le (by rw [HNA.out]; exact h)] at h1
                                  cases h1
                              obtain ⟨x, hx⟩ : ∃ x, all[j]? = some x := ⟨_, List.getElem?_eq_getElem (by rw [HNA.out]; exact hjl)⟩
                              have HDJ := hid_ (show all.drop j = x :: all.drop (j + 1) from by rw [List.drop_eq_getElem?_toList_append, hx]; rfl)
                              obtain ⟨ab, ao, hAA, habw, x0, x1⟩ := (HAT.out.mod HMI.out (Nat.le_refl _) (fun _ _ => id)) j x hx
                              obtain ⟨bb', off', hA', hbb', p0, p1⟩ := (HLP.out.mod HMI.out (Nat.le_refl _) (fun _ _ => id)) k p HPG.out
                              simp only [Option.some.injEq, Addr.mk.injEq] at hA'
                              obtain ⟨rfl, rfl, -⟩ := hA'
                              subst hAA
                              have hbbwi : bb < wr.heap.size := Nat.lt_of_lt_of_le hbb' HMI.out.size
                              have habwi : ab < wr.heap.size := Nat.lt_of_lt_of_le habw HMI.out.size
                              have v7 : (0 : Int) ≤ (j : Int) := by omega
                              have v8 : (j : Int) < na := by omega
                              clear hx hbb' habw
                              go_wp2_with fail
                              refine wp_region_stepsC [.int .i64 j, .slice (some ⟨ab, ao, none⟩) na ca, .int .i64 na, .bool true, .bool true, .slice (some ⟨ab, ao, none⟩) na ca, .int .i64 j, .pointer (some ⟨ab, ao + j * 2, none⟩), ptV x, .slice (some ⟨bb, off, none⟩) n c, .int .i64 k, .pointer (some ⟨bb, off + k * 2, none⟩), ptV p, .bool (!ptEqB x p), .bool (!ptEqB x p)] (Mod Nothing wr) (by kernel_rfl) (by kernel_rfl)
                                (by simp only [putAll, Act.put, List.setIfInBounds_toArray, List.set_cons_zero, List.set_cons_succ]; rfl) ((Mod.refl _ _).drew) ?_ ?_
                              · refine ⟨?_, ?_, ?_, ?_, ?_, ?_, ?_, ?_, ?_, ?_, ?_, ?_, ?_, ?_, ?_, trivial⟩
                                · intro L w' hun hw hC
                                  refine step_yes rfl ?_
                                  have HC := hid_ hC
                                  clear hun hw hC
                                  go_simp
                                  exact still rfl HC.out
                                · intro L w' hun hw hC
                                  refine step_yes rfl ?_
                                  have HC := hid_ hC
                                  clear hun hw hC
                                  go_simp
                                  exact still rfl HC.out
                                · intro L w' hun hw hC
                                  refine step_yes rfl ?_
                                  have HC := hid_ hC
                                  clear hun hw hC
                                  go_simp
                                  exact still rfl HC.out
                                · intro L w' hun hw hC
                                  refine step_yes rfl ?_
                                  have HC := hid_ hC
                                  clear hun hw hC
                                  go_simp
                                  exact still rfl HC.out
                                · intro L w' hun hw hC
                                  refine step_yes rfl ?_
                                  have HC := hid_ hC
                                  clear hun hw hC
                                  go_simp
                                  exact still rfl HC.out
                                · intro L w' hun hw hC
                                  refine step_yes rfl ?_
                                  have HC := hid_ hC
                                  clear hun hw hC
                                  go_simp
                                  exact still rfl HC.out
                                · intro L w' hun hw hC
                                  refine step_yes rfl ?_
                                  have HC := hid_ hC
                                  clear hun hw hC
                                  go_simp
                                  exact still rfl HC.out
                                · intro L w' hun hw hC
                                  refine step_yes rfl ?_
                                  have HC := hid_ hC
                                  clear hun hw hC
                                  go_simp
                                  exact still rfl HC.out
                                · intro L w' hun hw hC
                                  refine step_yes rfl ?_
                                  have HC := hid_ hC
                                  have c0 := (HC.out.cell (p := ⟨ab, ao + j * 2, none⟩) habwi id).trans x0
                                  have c1 := (HC.out.cell (p := ⟨ab, ao + j * 2 + 1, none⟩) habwi id).trans x1
                                  clear hun hw hC
                                  go_simp
                                  exact still rfl HC.out
                                · intro L w' hun hw hC
                                  refine step_yes rfl ?_
                                  have HC := hid_ hC
                                  clear hun hw hC
                                  go_simp
                                  exact still rfl HC.out
                                · intro L w' hun hw hC
                                  refine step_yes rfl ?_
                                  have HC := hid_ hC
                                  clear hun hw hC
                                  go_simp
                                  exact still rfl HC.out
                                · intro L w' hun hw hC
                                  refine step_yes rfl ?_
                                  have HC := hid_ hC
                                  clear hun hw hC
                                  go_simp
                                  exact still rfl HC.out
                                · intro L w' hun hw hC
                                  refine step_yes rfl ?_
                                  have HC := hid_ hC
                                  have c0 := (HC.out.cell (p := ⟨bb, off + k * 2, none⟩) hbbwi id).trans p0
                                  have c1 := (HC.out.cell (p := ⟨bb, off + k * 2 + 1, none⟩) hbbwi id).trans p1
                                  clear hun hw hC
                                  go_simp
                                  exact still rfl HC.out
                                · intro L w' hun hw hC
                                  refine step_yes rfl ?_
                                  have HC := hid_ hC
                                  clear hun hw hC
                                  go_simp
                                  exact still rfl HC.out
                                · intro L w' hun hw hC
                                  refine step_yes rfl ?_
                                  have HC := hid_ hC
                                  clear hun hw hC
                                  go_simp
                                  exact still rfl HC.out
                              · intro wj hmj
                                have HMJ := hid_ (HMI.out.trans hmj (fun _ _ h => h))
                                clear hmj x0 x1 p0 p1
                                have hxp := @ptEqB_iff x p
                                cases hq : ptEqB x p
                                · have HSB2 := hid_ (show List.Sublist (p :: cornFrom b l (k + 1)) (all.drop (j + 1)) from by
                                    have h1 := HSI.out
                                    rw [HDJ.out] at h1
                                    exact sub_skip h1 (fun e => by rw [hxp.2 e] at hq; cases hq))
                                  clear hxp hq
                                  go_wp2
                                  go_roundw
                                  case rel => exact ⟨j + 1, by omega, by go_num, HSB2.out, HMJ.out⟩
                                  case measure => simp [intOf]; omega
                                · clear hxp hq
                                  have hjn : (j : Int) ≠ na := by omega
                                  have hjb : ((j : Int) == na) = false := by rw [beq_eq_false_iff_ne]; exact hjn
                                  go_wp2
                                  go_roundw
                                  case rel => exact ⟨j, k + 1, by omega, by omega, by go_num, by go_num, (List.sublist_cons_self _ _).trans HSI.out, HMJ.out⟩
                                  case measure => simp [intOf]; omega
                      · have w7 : decide ((k : Int) + 1 < n) = false := decide_eq_false (by omega)
                        have w3 : IntKind.i64.wrap ((k : Int) + 1) = (k : Int) + 1 := IntWalk.i64_in _ (by omega)
                        have w8 : ¬ ((k : Int) + 1 < n) := by omega
                        have HAL := hid_ (show aloneB b l k = e1 from by
                          unfold aloneB
                          rw [HF.out, decide_eq_true (show l.length ≤ k + 1 by rw [HN.out]; omega), Bool.true_or, Bool.and_true])
                        clear HE1
                        cases e1 with
                        | true =>
                          have HSB2 := hid_ (show List.Sublist (cornFrom b l (k + 1)) (all.drop j0) from by
                            have h1 := HSB.out
                            rw [cornFrom_succ b l (by rw [HN.out]; exact hlt)] at h1
                            have h2 : corn b l k = [] := by unfold corn; rw [HAL.out]; simp
                            rw [h2] at h1
                            exact h1)
                          go_wp2
                          go_roundw
                          case rel => exact ⟨j0, k + 1, by omega, by omega, by go_num, by go_num, HSB2.out, HM.out⟩
                          case measure => simp [intOf]; omega
                        | false =>
                          have HSB2 := hid_ (show List.Sublist (p :: cornFrom b l (k + 1)) (all.drop j0) from by
                            have h1 := HSB.out
                            rw [cornFrom_succ b l (by rw [HN.out]; exact hlt)] at h1
                            have h2 : corn b l k = [p] := by unfold corn; rw [HAL.out, HPO.out, HIN.out]; rfl
                            rw [h2] at h1
                            exact h1)
                          go_wp2_with fail
                          go_loopw [11] (fun v wr => ∃ j : Nat, j ≤ na ∧ v = .int .i64 j ∧ List.Sublist (p :: cornFrom b l (k + 1)) (all.drop j) ∧ Mod Nothing w0 wr) (fun v _ => na - (intOf v).toNat)
                          case atStart => exact ⟨j0, by omega, rfl, HSB2.out, HM.out⟩
                          case round =>
                            obtain ⟨j, hj, rfl, hsb, hmi⟩ := hrel
                            have HSI := hid_ hsb
                            have HMI := hid_ hmi
                            clear hsb hmi p0 p1
                            have hjl : j < na := by
                              rcases Nat.lt_or_ge j na with h | h
                              · exact h
                              · have h1 := HSI.out
                                rw [List.drop_eq_nil_of_le (by rw [HNA.out]; exact h)] at h1
                                cases h1
                            obtain ⟨x, hx⟩ : ∃ x, all[j]? = some x := ⟨_, List.getElem?_eq_getElem (by rw [HNA.out]; exact hjl)⟩
                            have HDJ := hid_ (show all.drop j = x :: all.drop (j + 1) from by rw [List.drop_eq_getElem?_toList_append, hx]; rfl)
                            obtain ⟨ab, ao, hAA, habw, x0, x1⟩ := (HAT.out.mod HMI.out (Nat.le_refl _) (fun _ _ => id)) j x hx
                            obtain ⟨bb', off', hA', hbb', p0, p1⟩ := (HLP.out.mod HMI.out (Nat.le_refl _) (fun _ _ => id)) k p HPG.out
                            simp only [Option.some.injEq, Addr.mk.injEq] at hA'
                            obtain ⟨rfl, rfl, -⟩ := hA'
                            subst hAA
                            have hbbwi : bb < wr.heap.size := Nat.lt_of_lt_of_le hbb' HMI.out.size
                            have habwi : ab < wr.heap.size := Nat.lt_of_lt_of_le habw HMI.out.size
                            have v7 : (0 : Int) ≤ (j : Int) := by omega
                            have v8 : (j : Int) < na := by omega
                            clear hx hbb' habw
                            go_wp2_with fail
                            refine wp_region_stepsC [.int .i64 j, .slice (some ⟨ab, ao, none⟩) na ca, .int .i64 na, .bool true, .bool true, .slice (some ⟨ab, ao, none⟩) na ca, .int .i64 j, .pointer (some ⟨ab, ao + j * 2, none⟩), ptV x, .slice (some ⟨bb, off, none⟩) n c, .int .i64 k, .pointer (some ⟨bb, off + k * 2, none⟩), ptV p, .bool (!ptEqB x p), .bool (!ptEqB x p)] (Mod Nothing wr) (by kernel_rfl) (by kernel_rfl)
                              (by simp only [putAll, Act.put, List.setIfInBounds_toArray, List.set_cons_zero, List.set_cons_succ]; rfl) ((Mod.refl _ _).drew) ?_ ?_
                            · refine ⟨?_, ?_, ?_, ?_, ?_, ?_, ?_, ?_, ?_, ?_, ?_, ?_, ?_, ?_, ?_, trivial⟩
                              · intro L w' hun hw hC
                                refine step_yes rfl ?_
                                have HC := hid_ hC
                                clear hun hw hC
                                go_simp
                                exact still rfl HC.out
                              · intro L w' hun hw hC
                                refine step_yes rfl ?_
                                have HC := hid_ hC
                                clear hun hw hC
                                go_simp
                                exact still rfl HC.out
                              · intro L w' hun hw hC
                                refine step_yes rfl ?_
                                have HC := hid_ hC
                                clear hun hw hC
                                go_simp
                                exact still rfl HC.out
                              · intro L w' hun hw hC
                                refine step_yes rfl ?_
                                have HC := hid_ hC
                                clear hun hw hC
                                go_simp
                                exact still rfl HC.out
                              · intro L w' hun hw hC
                                refine step_yes rfl ?_
                                have HC := hid_ hC
                                clear hun hw hC
                                go_simp
                                exact still rfl HC.out
                              · intro L w' hun hw hC
                                refine step_yes rfl ?_
                                have HC := hid_ hC
                                clear hun hw hC
                                go_simp
                                exact still rfl HC.out
                              · intro L w' hun hw hC
                                refine step_yes rfl ?_
                                have HC := hid_ hC
                                clear hun hw hC
                                go_simp
                                exact still rfl HC.out
                              · intro L w' hun hw hC
                                refine step_yes rfl ?_
                                have HC := hid_ hC
                                clear hun hw hC
                                go_simp
                                exact still rfl HC.out
                              · intro L w' hun hw hC
                                refine step_yes rfl ?_
                                have HC := hid_ hC
                                have c0 := (HC.out.cell (p := ⟨ab, ao + j * 2, none⟩) habwi id).trans x0
                                have c1 := (HC.out.cell (p := ⟨ab, ao + j * 2 + 1, none⟩) habwi id).trans x1
                                clear hun hw hC
                                go_simp
                                exact still rfl HC.out
                              · intro L w' hun hw hC
                                refine step_yes rfl ?_
                                have HC := hid_ hC
                                clear hun hw hC
                                go_simp
                                exact still rfl HC.out
                              · intro L w' hun hw hC
                                refine step_yes rfl ?_
                                have HC := hid_ hC
                                clear hun hw hC
                                go_simp
                                exact still rfl HC.out
                              · intro L w' hun hw hC
                                refine step_yes rfl ?_
                                have HC := hid_ hC
                                clear hun hw hC
                                go_simp
                                exact still rfl HC.out
                              · intro L w' hun hw hC
                                refine step_yes rfl ?_
                                have HC := hid_ hC
                                have c0 := (HC.out.cell (p := ⟨bb, off + k * 2, none⟩) hbbwi id).trans p0
                                have c1 := (HC.out.cell (p := ⟨bb, off + k * 2 + 1, none⟩) hbbwi id).trans p1
                                clear hun hw hC
                                go_simp
                                exact still rfl HC.out
                              · intro L w' hun hw hC
                                refine step_yes rfl ?_
                                have HC := hid_ hC
                                clear hun hw hC
                                go_simp
                                exact still rfl HC.out
                              · intro L w' hun hw hC
                                refine step_yes rfl ?_
                                have HC := hid_ hC
                                clear hun hw hC
                                go_simp
                                exact still rfl HC.out
                            · intro wj hmj
                              have HMJ := hid_ (HMI.out.trans hmj (fun _ _ h => h))
                              clear hmj x0 x1 p0 p1
                              have hxp := @ptEqB_iff x p
                              cases hq : ptEqB x p
                              · have HSB2 := hid_ (show List.Sublist (p :: cornFrom b l (k + 1)) (all.drop (j + 1)) from by
                                  have h1 := HSI.out
                                  rw [HDJ.out] at h1
                                  exact sub_skip h1 (fun e => by rw [hxp.2 e] at hq; cases hq))
                                clear hxp hq
                                go_wp2
                                go_roundw
                                case rel => exact ⟨j + 1, by omega, by go_num, HSB2.out, HMJ.out⟩
                                case measure => simp [intOf]; omega
                              · clear hxp hq
                                have hjn : (j : Int) ≠ na := by omega
                                have hjb : ((j : Int) == na) = false := by rw [beq_eq_false_iff_ne]; exact hjn
                                go_wp2
                                go_roundw
                                case rel => exact ⟨j, k + 1, by omega, by omega, by go_num, by go_num, (List.sublist_cons_self _ _).trans HSI.out, HMJ.out⟩
                                case measure => simp [intOf]; omega
                · have v9 : decide (0 < (k : Int)) = false := decide_eq_false (by omega)
                  have HF := hid_ (show (decide (k = 0) || ptEqB (rPiece (ptOf l (k - 1)) (ptOf l k) b).1 (ptOf l k)) = true from by
                    rw [decide_eq_true (show k = 0 by omega)]; rfl)
                  by_cases h1 : k + 1 < n
                  · obtain ⟨q, hq⟩ : ∃ q, l[k + 1]? = some q := ⟨_, List.getElem?_eq_getElem (by rw [HN.out]; omega)⟩
                    obtain ⟨bb', off', hA', hbb', q0, q1⟩ := (HLP.out.mod HM.out (Nat.le_refl _) (fun _ _ => id)) (k + 1) q hq
                    simp only [Option.some.injEq, Addr.mk.injEq] at hA'
                    obtain ⟨rfl, rfl, -⟩ := hA'
                    have HQO := hid_ (ptOf_get hq)
                    have HNQ := hid_ (HNEAR.out q (List.mem_of_getElem? hq))
                    clear hq hbb'
                    have w3 : IntKind.i64.wrap ((k : Int) + 1) = (k : Int) + 1 := IntWalk.i64_in _ (by omega)
                    have w4 : ((k : Int) + 1).toNat = k + 1 := by omega
                    have w5 : (0 : Int) ≤ (k : Int) + 1 := by omega
                    have w6 : (k : Int) + 1 < n := by omega
                    have w7 : decide ((k : Int) + 1 < n) = true := decide_eq_true w6
                    obtain ⟨R1, R2, R3, hR⟩ : ∃ R1 R2 R3, rPiece p q b = (R1, R2, R3) := ⟨_, _, _, rfl⟩
                    have CPC := hid_ (fun w' => rpiece_any p q b w' HNP.out HNQ.out HNB.out.1 HNB.out.2)
                    rw [hR] at CPC
                    unfold RPost at CPC
                    dsimp only at CPC
                    have HR21 := hid_ hR
                    clear hR
                    go_wp2_with fail
                    refine wp_region_ghost (0, 0) (fun γ => [.slice (some ⟨bb, off, none⟩) n c, .int .i64 k, .pointer (some ⟨bb, off + k * 2, none⟩), ptV p, .slice (some ⟨bb, off, none⟩) n c, .int .i64 k, .int .i64 ((k : Int) + 1), .pointer (some ⟨bb, off + (k + 1) * 2, none⟩), ptV q, bxV b, .tuple #[ptV R1, ptV R2, .bool R3], .tuple #[ptV R1, ptV R2, .bool R3], ptV R1, ptV R2, .bool R3, .pointer (some ⟨γ.1, 0, none⟩), .pointer (some ⟨γ.2, 0, none⟩), undef, undef, .bool R3]) (New2 wq 24 (.int .i64 0) (.int .i64 0) 15 17 (.int .i64 R1.x) (.int .i64 R1.y) 16 18 (.int .i64 R2.x) (.int .i64 R2.y)) (by kernel_rfl) (by kernel_rfl)
                      (fun γ => by simp only [putAll, Act.put, List.setIfInBounds_toArray, List.set_cons_zero, List.set_cons_succ]; rfl) (⟨(Mod.refl _ _).drew, fun h => by simp at h, fun h => by simp at h, fun h => by simp at h, fun h => by simp at h, fun h => by simp at h⟩) ?_ ?_
                    · refine ⟨?_, ?_, ?_, ?_, ?_, ?_, ?_, ?_, ?_, ?_, ?_, ?_, ?_, ?_, ?_, ?_, ?_, ?_, ?_, ?_, trivial⟩
                      · intro L γ w' hun hw hC
                        refine step_yes rfl ?_
                        have HC := hid_ hC
                        clear hun hw hC
                        go_simp
                        exact turned γ rfl (HC.out.skip (n := 0) (by decide) (by decide) (by decide) (by decide) (Mod.refl _ _))
                      · intro L γ w' hun hw hC
                        refine step_yes rfl ?_
                        have HC := hid_ hC
                        clear hun hw hC
                        go_simp
                        exact turned γ rfl (HC.out.skip (n := 1) (by decide) (by decide) (by decide) (by decide) (Mod.refl _ _))
                      · intro L γ w' hun hw hC
                        refine step_yes rfl ?_
                        have HC := hid_ hC
                        clear hun hw hC
                        go_simp
                        exact turned γ rfl (HC.out.skip (n := 2) (by decide) (by decide) (by decide) (by decide) (Mod.refl _ _))
                      · intro L γ w' hun hw hC
                        refine step_yes rfl ?_
                        have HC := hid_ hC
                        have c0 := (HC.out.base.cell (p := ⟨bb, off + k * 2, none⟩) hbbwq id).trans p0
                        have c1 := (HC.out.base.cell (p := ⟨bb, off + k * 2 + 1, none⟩) hbbwq id).trans p1
                        clear hun hw hC
                        go_simp
                        exact turned γ rfl (HC.out.skip (n := 3) (by decide) (by decide) (by decide) (by decide) (Mod.refl _ _))
                      · intro L γ w' hun hw hC
                        refine step_yes rfl ?_
                        have HC := hid_ hC
                        clear hun hw hC
                        go_simp
                        exact turned γ rfl (HC.out.skip (n := 4) (by decide) (by decide) (by decide) (by decide) (Mod.refl _ _))
                      · intro L γ w' hun hw hC
                        refine step_yes rfl ?_
                        have HC := hid_ hC
                        clear hun hw hC
                        go_simp
                        exact turned γ rfl (HC.out.skip (n := 5) (by decide) (by decide) (by decide) (by decide) (Mod.refl _ _))
                      · intro L γ w' hun hw hC
                        refine step_yes rfl ?_
                        have HC := hid_ hC
                        clear hun hw hC
                        go_simp
                        exact turned γ rfl (HC.out.skip (n := 6) (by decide) (by decide) (by decide) (by decide) (Mod.refl _ _))
                      · intro L γ w' hun hw hC
                        refine step_yes rfl ?_
                        have HC := hid_ hC
                        clear hun hw hC
                        go_simp
                        exact turned γ rfl (HC.out.skip (n := 7) (by decide) (by decide) (by decide) (by decide) (Mod.refl _ _))
                      · intro L γ w' hun hw hC
                        refine step_yes rfl ?_
                        have HC := hid_ hC
                        have c0 := (HC.out.base.cell (p := ⟨bb, off + (k + 1) * 2, none⟩) hbbwq id).trans q0
                        have c1 := (HC.out.base.cell (p := ⟨bb, off + (k + 1) * 2 + 1, none⟩) hbbwq id).trans q1
                        clear hun hw hC
                        go_simp
                        exact turned γ rfl (HC.out.skip (n := 8) (by decide) (by decide) (by decide) (by decide) (Mod.refl _ _))
                      · intro L γ w' hun hw hC
                        refine step_yes rfl ?_
                        have HC := hid_ hC
                        obtain ⟨b0, b1, b2, b3, -, -, -, -, hbl⟩ := (HC.out.base.bk HBW.out id).four
                        clear hun hw hC
                        go_simp
                        exact turned γ rfl (HC.out.skip (n := 9) (by decide) (by decide) (by decide) (by decide) (Mod.refl _ _))
                      · intro L γ w' hun hw hC
                        refine step_yes rfl ?_
                        have HC := hid_ hC
                        have CC := hid_ (CPC.out w')
                        clear hun hw hC
                        go_simp
                        refine CC.out.mono ?_
                        rintro e w3 ⟨rfl, hm⟩
                        exact turned γ rfl (HC.out.skip (n := 10) (by decide) (by decide) (by decide) (by decide) hm)
                      · intro L γ w' hun hw hC
                        refine step_yes rfl ?_
                        have HC := hid_ hC
                        clear hun hw hC
                        go_simp
                        exact turned γ rfl (HC.out.skip (n := 11) (by decide) (by decide) (by decide) (by decide) (Mod.refl _ _))
                      · intro L γ w' hun hw hC
                        refine step_yes rfl ?_
                        have HC := hid_ hC
                        clear hun hw hC
                        go_simp
                        exact turned γ rfl (HC.out.skip (n := 12) (by decide) (by decide) (by decide) (by decide) (Mod.refl _ _))
                      · intro L γ w' hun hw hC
                        refine step_yes rfl ?_
                        have HC := hid_ hC
                        clear hun hw hC
                        go_simp
                        exact turned γ rfl (HC.out.skip (n := 13) (by decide) (by decide) (by decide) (by decide) (Mod.refl _ _))
                      · intro L γ w' hun hw hC
                        refine step_yes rfl ?_
                        have HC := hid_ hC
                        clear hun hw hC
                        go_simp
                        exact turned γ rfl (HC.out.skip (n := 14) (by decide) (by decide) (by decide) (by decide) (Mod.refl _ _))
                      · intro L γ w' hun hw hC
                        refine step_yes rfl ?_
                        have HC := hid_ hC
                        have HU := hid_ hun
                        clear hun hw hC
                        go_simp
                        exact turned (w'.heap.size, γ.2) rfl (HC.out.new1 (by decide) (by decide) (by decide) HU.out)
                      · intro L γ w' hun hw hC
                        refine step_yes rfl ?_
                        have HC := hid_ hC
                        have HU := hid_ hun
                        clear hun hw hC
                        go_simp
                        exact turned (γ.1, w'.heap.size) rfl (HC.out.new2 (by decide) (by decide) (by decide) HU.out)
                      · intro L γ w' hun hw hC
                        refine step_yes rfl ?_
                        have hl : L.getD 15 false = true := hw ⟨15, .data⟩ (by simp) rfl
                        have hb := (hC.one hl).2
                        rw [getD_un hun] at hb
                        obtain ⟨c0, c1, f0, f1, hlt0⟩ := hb.two
                        have HC := hid_ hC
                        have HU := hid_ hun
                        have HLL := hid_ hl
                        clear hun hw hC hl hb
                        go_simp
                        exact turned γ rfl (HC.out.put1 (by decide) (by decide) (by decide) HU.out HLL.out)
                      · intro L γ w' hun hw hC
                        refine step_yes rfl ?_
                        have hl : L.getD 16 false = true := hw ⟨16, .data⟩ (by simp) rfl
                        have hb := (hC.two hl).2
                        rw [getD_un hun] at hb
                        obtain ⟨c0, c1, f0, f1, hlt0⟩ := hb.two
                        have HC := hid_ hC
                        have HU := hid_ hun
                        have HLL := hid_ hl
                        clear hun hw hC hl hb
                        go_simp
                        exact turned γ rfl (HC.out.put2 (by decide) (by decide) (by decide) HU.out HLL.out)
                      · intro L γ w' hun hw hC
                        refine step_yes rfl ?_
                        have HC := hid_ hC
                        clear hun hw hC
                        go_simp
                        exact turned γ rfl (HC.out.skip (n := 19) (by decide) (by decide) (by decide) (by decide) (Mod.refl _ _))
                    · intro L γ wc hall hC
                      have hg1 := (hC.one (hall 15 (by decide))).2
                      have hg2 := (hC.two (hall 16 (by decide))).2
                      rw [if_pos (hall 17 (by decide))] at hg1
                      rw [if_pos (hall 18 (by decide))] at hg2
                      have HG1 := hid_ hg1
                      have HG2 := hid_ hg2
                      have hmY := hC.base
                      obtain ⟨ga, gb⟩ := γ
                      have HM := hid_ (HM.out.trans hmY (fun _ _ h => h))
                      have HBW := hid_ (hmY.bk HBW.out id)
                      obtain ⟨p0, p1⟩ : wc.cell? ⟨bb, off + k * 2, none⟩ = some (.int .i64 p.x) ∧ wc.cell? ⟨bb, off + k * 2 + 1, none⟩ = some (.int .i64 p.y) := ⟨(hmY.cell (p := ⟨bb, off + k * 2, none⟩) hbbwq id).trans p0, (hmY.cell (p := ⟨bb, off + k * 2 + 1, none⟩) hbbwq id).trans p1⟩
                      have hbbwc : bb < wc.heap.size := Nat.lt_of_lt_of_le hbbwq hmY.size
                      clear hmY hC hall hg1 hg2 q0 q1
                      go_wp2_with fail
                      refine wp_region_late [(9, 13)] (.bool true) (fun γ => [.bool true, .bool true, ptV R2, .slice (some ⟨bb, off, none⟩) n c, .int .i64 k, .pointer (some ⟨bb, off + k * 2, none⟩), ptV p, .bool (ptEqB R2 p), .bool (ptEqB R2 p), γ]) (LateC 9 wc (.bool true) (.bool (true && ptEqB R2 p))) (by kernel_rfl) (by kernel_rfl)
                        (fun γ => by simp only [putAll, Act.put, List.setIfInBounds_toArray, List.set_cons_zero, List.set_cons_succ]; rfl) ?_ ⟨(Mod.refl _ _).drew, fun _ => rfl, fun h => by simp at h, fun h => by simp at h⟩ ?_ ?_
                      · intro L γ w' hC p hp hl
                        simp only [List.mem_cons, List.not_mem_nil, or_false] at hp
                        subst hp
                        show some γ = some (.bool true)
                        rw [hC.q hl]
                      · refine ⟨?_, ?_, ?_, ?_, ?_, ?_, ?_, ?_, ?_, ?_, trivial⟩
                        · intro L γ w' hun hw hC
                          refine step_yes rfl ?_
                          obtain rfl := hC.none hun
                          have HC := hid_ hC
                          clear hun hw hC
                          go_simp
                          exact turned _ rfl (HC.out.skip (i := 0) (by decide) (Mod.refl _ _))
                        · intro L γ w' hun hw hC
                          refine step_yes rfl ?_
                          have HC := hid_ hC
                          clear hun hw hC
                          go_simp
                          exact turned γ rfl (HC.out.skip (i := 1) (by decide) (Mod.refl _ _))
                        · intro L γ w' hun hw hC
                          refine step_yes rfl ?_
                          have HC := hid_ hC
                          obtain ⟨d0, d1, -, -, hdl⟩ := (HC.out.base.bk HG2.out id).two
                          clear hun hw hC
                          go_simp
                          exact turned γ rfl (HC.out.skip (i := 2) (by decide) (Mod.refl _ _))
                        · intro L γ w' hun hw hC
                          refine step_yes rfl ?_
                          have HC := hid_ hC
                          clear hun hw hC
                          go_simp
                          exact turned γ rfl (HC.out.skip (i := 3) (by decide) (Mod.refl _ _))
                        · intro L γ w' hun hw hC
                          refine step_yes rfl ?_
                          have HC := hid_ hC
                          clear hun hw hC
                          go_simp
                          exact turned γ rfl (HC.out.skip (i := 4) (by decide) (Mod.refl _ _))
                        · intro L γ w' hun hw hC
                          refine step_yes rfl ?_
                          have HC := hid_ hC
                          clear hun hw hC
                          go_simp
                          exact turned γ rfl (HC.out.skip (i := 5) (by decide) (Mod.refl _ _))
                        · intro L γ w' hun hw hC
                          refine step_yes rfl ?_
                          have HC := hid_ hC
                          have c0 := (HC.out.base.cell (p := ⟨bb, off + k * 2, none⟩) hbbwc id).trans p0
                          have c1 := (HC.out.base.cell (p := ⟨bb, off + k * 2 + 1, none⟩) hbbwc id).trans p1
                          clear hun hw hC
                          go_simp
                          exact turned γ rfl (HC.out.skip (i := 6) (by decide) (Mod.refl _ _))
                        · intro L γ w' hun hw hC
                          refine step_yes rfl ?_
                          have HC := hid_ hC
                          clear hun hw hC
                          go_simp
                          exact turned γ rfl (HC.out.skip (i := 7) (by decide) (Mod.refl _ _))
                        · intro L γ w' hun hw hC
                          refine step_yes rfl ?_
                          have HC := hid_ hC
                          clear hun hw hC
                          go_simp
                          exact turned γ rfl (HC.out.skip (i := 8) (by decide) (Mod.refl _ _))
                        · intro L γ w' hun hw hC
                          refine step_yes rfl ?_
                          have h0 : L.getD 0 false = true := hw ⟨0, .phase⟩ (by simp) rfl
                          have HC := hid_ (hC.last hun h0)
                          clear hun hw hC h0
                          go_simp
                          exact turned _ rfl HC.out
                      · intro L γ wd hall hC
                        obtain rfl := hC.r (hall 9 (by decide))
                        have hmY := hC.base
                        clear hall hC
                        obtain ⟨e, he⟩ : ∃ e, e = (true && ptEqB R2 p) := ⟨_, rfl⟩
                        rw [← he]
                        have HE := hid_ he
                        clear he
                        have HM := hid_ (HM.out.trans hmY (fun _ _ h => h))
                        have HBW := hid_ (hmY.bk HBW.out id)
                        obtain ⟨p0, p1⟩ : wd.cell? ⟨bb, off + k * 2, none⟩ = some (.int .i64 p.x) ∧ wd.cell? ⟨bb, off + k * 2 + 1, none⟩ = some (.int .i64 p.y) := ⟨(hmY.cell (p := ⟨bb, off + k * 2, none⟩) hbbwc id).trans p0, (hmY.cell (p := ⟨bb, off + k * 2 + 1, none⟩) hbbwc id).trans p1⟩
                        have hbbwd : bb < wd.heap.size := Nat.lt_of_lt_of_le hbbwc hmY.size
                        clear hmY
                        have HAL := hid_ (show aloneB b l k = e from by
                          unfold aloneB
                          rw [HF.out, decide_eq_false (show ¬ l.length ≤ k + 1 by rw [HN.out]; omega), HPO.out, HQO.out, HR21.out, Bool.false_or]
                          exact HE.out.symm)
                        clear HE w3 w4 w5 w6 w7
                        cases e with
                        | true =>
                          have HSB2 := hid_ (show List.Sublist (cornFrom b l (k + 1)) (all.drop j0) from by
                            have h1 := HSB.out
                            rw [cornFrom_succ b l (by rw [HN.out]; exact hlt)] at h1
                            have h2 : corn b l k = [] := by unfold corn; rw [HAL.out]; simp
                            rw [h2] at h1
                            exact h1)
                          go_wp2
                          go_roundw
                          case rel => exact ⟨j0, k + 1, by omega, by omega, by go_num, by go_num, HSB2.out, HM.out⟩
                          case measure => simp [intOf]; omega
                        | false =>
                          have HSB2 := hid_ (show List.Sublist (p :: cornFrom b l (k + 1)) (all.drop j0) from by
                            have h1 := HSB.out
                            rw [cornFrom_succ b l (by rw [HN.out]; exact hlt)] at h1
                            have h2 : corn b l k = [p] := by unfold corn; rw [HAL.out, HPO.out, HIN.out]; rfl
                            rw [h2] at h1
                            exact h1)
                          go_wp2_with fail
                          go_loopw [11] (fun v wr => ∃ j : Nat, j ≤ na ∧ v = .int .i64 j ∧ List.Sublist (p :: cornFrom b l (k + 1)) (all.drop j) ∧ Mod Nothing w0 wr) (fun v _ => na - (intOf v).toNat)
                          case atStart => exact ⟨j0, by omega, rfl, HSB2.out, HM.out⟩
                          case round =>
                            obtain ⟨j, hj, rfl, hsb, hmi⟩ := hrel
                            have HSI := hid_ hsb
                            have HMI := hid_ hmi
                            clear hsb hmi p0 p1
                            have hjl : j < na := by
                              rcases Nat.lt_or_ge j na with h | h
                              · exact h
                              · have h1 := HSI.out
                                rw [List.drop_eq_nil_of_le (by rw [HNA.out]; exact h)] at h1
                                cases h1
                            obtain ⟨x, hx⟩ : ∃ x, all[j]? = some x := ⟨_, List.getElem?_eq_getElem (by rw [HNA.out]; exact hjl)⟩
                            have HDJ := hid_ (show all.drop j = x :: all.drop (j + 1) from by rw [List.drop_eq_getElem?_toList_append, hx]; rfl)
                            obtain ⟨ab, ao, hAA, habw, x0, x1⟩ := (HAT.out.mod HMI.out (Nat.le_refl _) (fun _ _ => id)) j x hx
                            obtain ⟨bb', off', hA', hbb', p0, p1⟩ := (HLP.out.mod HMI.out (Nat.le_refl _) (fun _ _ => id)) k p HPG.out
                            simp only [Option.some.injEq, Addr.mk.injEq] at hA'
                            obtain ⟨rfl, rfl, -⟩ := hA'
                            subst hAA
                            have hbbwi : bb < wr.heap.size := Nat.lt_of_lt_of_le hbb' HMI.out.size
                            have habwi : ab < wr.heap.size := Nat.lt_of_lt_of_le habw HMI.out.size
                            have v7 : (0 : Int) ≤ (j : Int) := by omega
                            have v8 : (j : Int) < na := by omega
                            clear hx hbb' habw
                            go_wp2_with fail
                            refine wp_region_stepsC [.int .i64 j, .slice (some ⟨ab, ao, none⟩) na ca, .int .i64 na, .bool true, .bool true, .slice (some ⟨ab, ao, none⟩) na ca, .int .i64 j, .pointer (some ⟨ab, ao + j * 2, none⟩), ptV x, .slice (some ⟨bb, off, none⟩) n c, .int .i64 k, .pointer (some ⟨bb, off + k * 2, none⟩), ptV p, .bool (!ptEqB x p), .bool (!ptEqB x p)] (Mod Nothing wr) (by kernel_rfl) (by kernel_rfl)
                              (by simp only [putAll, Act.put, List.setIfInBounds_toArray, List.set_cons_zero, List.set_cons_succ]; rfl) ((Mod.refl _ _).drew) ?_ ?_
                            · refine ⟨?_, ?_, ?_, ?_, ?_, ?_, ?_, ?_, ?_, ?_, ?_, ?_, ?_, ?_, ?_, trivial⟩
                              · intro L w' hun hw hC
                                refine step_yes rfl ?_
                                have HC := hid_ hC
                                clear hun hw hC
                                go_simp
                                exact still rfl HC.out
                              · intro L w' hun hw hC
                                refine step_yes rfl ?_
                                have HC := hid_ hC
                                clear hun hw hC
                                go_simp
                                exact still rfl HC.out
                              · intro L w' hun hw hC
                                refine step_yes rfl ?_
                                have HC := hid_ hC
                                clear hun hw hC
                                go_simp
                                exact still rfl HC.out
                              · intro L w' hun hw hC
                                refine step_yes rfl ?_
                                have HC := hid_ hC
                                clear hun hw hC
                                go_simp
                                exact still rfl HC.out
                              · intro L w' hun hw hC
                                refine step_yes rfl ?_
                                have HC := hid_ hC
                                clear hun hw hC
                                go_simp
                                exact still rfl HC.out
                              · intro L w' hun hw hC
                                refine step_yes rfl ?_
                                have HC := hid_ hC
                                clear hun hw hC
                                go_simp
                                exact still rfl HC.out
                              · intro L w' hun hw hC
                                refine step_yes rfl ?_
                                have HC := hid_ hC
                                clear hun hw hC
                                go_simp
                                exact still rfl HC.out
                              · intro L w' hun hw hC
                                refine step_yes rfl ?_
                                have HC := hid_ hC
                                clear hun hw hC
                                go_simp
                                exact still rfl HC.out
                              · intro L w' hun hw hC
                                refine step_yes rfl ?_
                                have HC := hid_ hC
                                have c0 := (HC.out.cell (p := ⟨ab, ao + j * 2, none⟩) habwi id).trans x0
                                have c1 := (HC.out.cell (p := ⟨ab, ao + j * 2 + 1, none⟩) habwi id).trans x1
                                clear hun hw hC
                                go_simp
                                exact still rfl HC.out
                              · intro L w' hun hw hC
                                refine step_yes rfl ?_
                                have HC := hid_ hC
                                clear hun hw hC
                                go_simp
                                exact still rfl HC.out
                              · intro L w' hun hw hC
                                refine step_yes rfl ?_
                                have HC := hid_ hC
                                clear hun hw hC
                                go_simp
                                exact still rfl HC.out
                              · intro L w' hun hw hC
                                refine step_yes rfl ?_
                                have HC := hid_ hC
                                clear hun hw hC
                                go_simp
                                exact still rfl HC.out
                              · intro L w' hun hw hC
                                refine step_yes rfl ?_
                                have HC := hid_ hC
                                have c0 := (HC.out.cell (p := ⟨bb, off + k * 2, none⟩) hbbwi id).trans p0
                                have c1 := (HC.out.cell (p := ⟨bb, off + k * 2 + 1, none⟩) hbbwi id).trans p1
                                clear hun hw hC
                                go_simp
                                exact still rfl HC.out
                              · intro L w' hun hw hC
                                refine step_yes rfl ?_
                                have HC := hid_ hC
                                clear hun hw hC
                                go_simp
                                exact still rfl HC.out
                              · intro L w' hun hw hC
                                refine step_yes rfl ?_
                                have HC := hid_ hC
                                clear hun hw hC
                                go_simp
                                exact still rfl HC.out
                            · intro wj hmj
                              have HMJ := hid_ (HMI.out.trans hmj (fun _ _ h => h))
                              clear hmj x0 x1 p0 p1
                              have hxp := @ptEqB_iff x p
                              cases hq : ptEqB x p
                              · have HSB2 := hid_ (show List.Sublist (p :: cornFrom b l (k + 1)) (all.drop (j + 1)) from by
                                  have h1 := HSI.out
                                  rw [HDJ.out] at h1
                                  exact sub_skip h1 (fun e => by rw [hxp.2 e] at hq; cases hq))
                                clear hxp hq
                                go_wp2
                                go_roundw
                                case rel => exact ⟨j + 1, by omega, by go_num, HSB2.out, HMJ.out⟩
                                case measure => simp [intOf]; omega
                              · clear hxp hq
                                have hjn : (j : Int) ≠ na := by omega
                                have hjb : ((j : Int) == na) = false := by rw [beq_eq_false_iff_ne]; exact hjn
                                go_wp2
                                go_roundw
                                case rel => exact ⟨j, k + 1, by omega, by omega, by go_num, by go_num, (List.sublist_cons_self _ _).trans HSI.out, HMJ.out⟩
                                case measure => simp [intOf]; omega
                  · have w7 : decide ((k : Int) + 1 < n) = false := decide_eq_false (by omega)
                    have w3 : IntKind.i64.wrap ((k : Int) + 1) = (k : Int) + 1 := IntWalk.i64_in _ (by omega)
                    have w8 : ¬ ((k : Int) + 1 < n) := by omega
                    have HAL := hid_ (show aloneB b l k = true from by
                      unfold aloneB
                      rw [HF.out, decide_eq_true (show l.length ≤ k + 1 by rw [HN.out]; omega)]
                      rfl)
                    have HSB2 := hid_ (show List.Sublist (cornFrom b l (k + 1)) (all.drop j0) from by
                      have h1 := HSB.out
                      rw [cornFrom_succ b l (by rw [HN.out]; exact hlt)] at h1
                      have h2 : corn b l k = [] := by unfold corn; rw [HAL.out]; simp
                      rw [h2] at h1
                      exact h1)
                    go_wp2
                    go_roundw
                    case rel => exact ⟨j0, k + 1, by omega, by omega, by go_num, by go_num, HSB2.out, HM.out⟩
                    case measure => simp [intOf]; omega
          · have hkn : k = n := by omega
            subst hkn
            go_wp2
            go_returns
            exact ⟨rfl, HM6.out.trans HM.out (fun _ _ h => h)⟩
  · have hdb : ((nd : Int) != n) = true := by rw [bne_iff_ne]; omega
    go_wp2
    go_returns
    exact ⟨rfl, HM4.out⟩
end Go.Proofs.Ytadiajlegajclaa
