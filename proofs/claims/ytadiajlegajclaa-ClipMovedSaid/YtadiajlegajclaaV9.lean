/- ClipMoved, walked. -/
import Derived.Test.YtadiajlegajclaaV6
import Derived.Test.YtadiajlegajclaaP6
set_option linter.unusedVariables false
set_option linter.unusedSimpArgs false
namespace Go.Proofs.Ytadiajlegajclaa
open Go.RowKit

/-- What Moved returns, as one value. -/
def TupV (w : World) (v : Value) (l : List Pt) : Prop := ∃ u, v = .tuple #[u, .bool true] ∧ PtsV w u l
inductive Kt where
  | no
  | pts (l : List Pt)
  | tup (l : List Pt)
def Kt.of : Kt → Value → World → Prop
  | .no, _, _ => True
  | .pts l, v, w => PtsV w v l
  | .tup l, v, w => TupV w v l
def Kt.at (ks : List Kt) (i : Nat) (v : Value) (w : World) : Prop := (ks.getD i .no).of v w
theorem PtsV.mod {w w' : World} {v : Value} {l : List Pt} (h : PtsV w v l) (hm : Mod Nothing w w') : PtsV w' v l := by
  obtain ⟨A, c, e, hp⟩ := h
  exact ⟨A, c, e, (hp.mod hm (Nat.le_refl _) (fun _ _ => id)).mono hm.size⟩
theorem Kt.at_mod (ks : List Kt) (i : Nat) (v : Value) (w w' : World) (hm : Mod (fun _ => False) w w') (h : Kt.at ks i v w) : Kt.at ks i v w' := by
  unfold Kt.at at h ⊢
  generalize ks.getD i .no = k at h ⊢
  cases k with
  | no => trivial
  | pts l => exact PtsV.mod h hm
  | tup l =>
    obtain ⟨u, e, hp⟩ := h
    exact ⟨u, e, hp.mod hm⟩

/-- While the law stores its second box: the new variable at γ. -/
structure BoxQ (w0 : World) (b : Bx) (L : Array Bool) (γ : Nat) (w' : World) : Prop where
  base : Mod Nothing w0 w'
  t : L.getD 7 false = true → w0.heap.size ≤ γ ∧ Bk w' γ 26 (if L.getD 8 false then [.int .i64 b.lo.x, .int .i64 b.lo.y, .int .i64 b.hi.x, .int .i64 b.hi.y] else [.int .i64 0, .int .i64 0, .int .i64 0, .int .i64 0])
  o : L.getD 8 false = true → L.getD 7 false = true
theorem BoxQ.skip {w0 : World} {b : Bx} {L : Array Bool} {γ : Nat} {w1 w2 : World} (h : BoxQ w0 b L γ w1) (hm : Mod Nothing w1 w2) (i : Nat) (h1 : i ≠ 7) (h2 : i ≠ 8) : BoxQ w0 b (L.setIfInBounds i true) γ w2 := by
  refine ⟨h.base.trans hm (fun _ _ h => h), ?_, ?_⟩
  · rw [getD_set_ne false h1, getD_set_ne false h2]
    exact fun e => ⟨(h.t e).1, hm.bk (h.t e).2 id⟩
  · rw [getD_set_ne false h1, getD_set_ne false h2]; exact h.o
theorem BoxQ.new1 {w0 : World} {b : Bx} {L : Array Bool} {γ : Nat} {w1 : World} (h : BoxQ w0 b L γ w1) (hu : L.getD 7 true = false) : BoxQ w0 b (L.setIfInBounds 7 true) w1.heap.size (w1.alloc (.cells #[.int .i64 0, .int .i64 0, .int .i64 0, .int .i64 0] 26)) := by
  have h18 : L.getD 8 false = false := by
    cases e : L.getD 8 false with
    | false => rfl
    | true => have := h.o e; rw [getD_un hu] at this; cases this
  refine ⟨h.base.alloc _, fun _ => ?_, fun _ => getD_put hu⟩
  rw [getD_set_ne false (by decide), h18]
  exact ⟨h.base.size, Bk.new _ _ _⟩
theorem BoxQ.put1 {w0 : World} {b : Bx} {L : Array Bool} {γ : Nat} {w1 : World} (h : BoxQ w0 b L γ w1) (hu : L.getD 8 true = false) (hl : L.getD 7 false = true) :
    BoxQ w0 b (L.setIfInBounds 8 true) γ ((((w1.setCell ⟨γ, 0, none⟩ (.int .i64 b.lo.x)).setCell ⟨γ, 1, none⟩ (.int .i64 b.lo.y)).setCell ⟨γ, 2, none⟩ (.int .i64 b.hi.x)).setCell ⟨γ, 3, none⟩ (.int .i64 b.hi.y)) := by
  obtain ⟨h1, h2⟩ := h.t hl
  rw [getD_un hu] at h2
  refine ⟨(((h.base.setNew (p := ⟨γ, 0, none⟩) h1 _).setNew (p := ⟨γ, 1, none⟩) h1 _).setNew (p := ⟨γ, 2, none⟩) h1 _).setNew (p := ⟨γ, 3, none⟩) h1 _, fun _ => ?_, fun _ => ?_⟩
  · rw [if_pos (getD_put hu)]
    exact ⟨h1, (((h2.set 0 _).set 1 _).set 2 _).set 3 _⟩
  · rw [getD_set_ne false (by decide)]; exact hl

set_option maxRecDepth 100000 in
set_option maxHeartbeats 16000000 in
theorem law9_any (w : World) (A : Option Addr) (c n : Nat) (l : List Pt) (b : Bx) (d : Pt) (hn : l.length = n) (hl : PtsAt w w.heap.size A l) (hm : n ≤ maxLen) (hwf : ∀ p ∈ l, PtWf p) (hb : BxWf b) (hd : PtWf d) :
    Calls Try.prog 9 #[.slice A n c, bxV b, ptV d] w (BPost true w) := by
  have CL := hid_ (fun w' (hn' : n ≤ 100) (hm' : Mod Nothing w w') => line_any (w := w') A c n l b hn ((hl.mod hm' (Nat.le_refl _) (fun _ _ => id)).mono hm'.size) (by omega) hwf hb)
  have CRG := hid_ (fun w' (hn' : n ≤ 100) (hm' : Mod Nothing w w') => ring_any (w := w') A c n l b hn ((hl.mod hm' (Nat.le_refl _) (fun _ _ => id)).mono hm'.size) (by omega) hwf hb)
  have CMV := hid_ (fun w' (hn' : n ≤ 100) (hm' : Mod Nothing w w') => moved_any w' A c n l d hn ((hl.mod hm' (Nat.le_refl _) (fun _ _ => id)).mono hm'.size) (by omega))
  have HN := hid_ hn
  have vm : (n : Int) ≤ 9223372036854775807 := by unfold maxLen at hm; omega
  clear hl hn hwf hb hm hd
  go_enter Try.func9, Try.ntmps9
  go_wp2_with fail
  have HB := hid_ (show Bk ((w.alloc (.cells #[.int .i64 b.lo.x, .int .i64 b.lo.y, .int .i64 b.hi.x, .int .i64 b.hi.y] 26)).alloc (.cells #[.int .i64 d.x, .int .i64 d.y] 24)) w.heap.size 26 [.int .i64 b.lo.x, .int .i64 b.lo.y, .int .i64 b.hi.x, .int .i64 b.hi.y] from (Bk.new _ _ _).alloc _)
  have HD := hid_ (show Bk ((w.alloc (.cells #[.int .i64 b.lo.x, .int .i64 b.lo.y, .int .i64 b.hi.x, .int .i64 b.hi.y] 26)).alloc (.cells #[.int .i64 d.x, .int .i64 d.y] 24)) (w.heap.size + 1) 24 [.int .i64 d.x, .int .i64 d.y] from by have h := Bk.new (w.alloc (.cells #[.int .i64 b.lo.x, .int .i64 b.lo.y, .int .i64 b.hi.x, .int .i64 b.hi.y] 26)) 24 [.int .i64 d.x, .int .i64 d.y]; simpa using h)
  have HM0 := hid_ (((Mod.refl Nothing w).alloc (.cells #[.int .i64 b.lo.x, .int .i64 b.lo.y, .int .i64 b.hi.x, .int .i64 b.hi.y] 26)).alloc (.cells #[.int .i64 d.x, .int .i64 d.y] 24))
  refine (head_any _).mono ?_
  rintro e w1 ⟨rfl, hm1⟩
  have HM1 := hid_ (HM0.out.trans hm1 (fun _ _ h => h))
  have HB1 := hid_ (hm1.bk HB.out id)
  have HD1 := hid_ (hm1.bk HD.out id)
  clear hm1 HM0 HB HD
  by_cases hn2 : 100 < n
  · go_wp2
    go_returns
    exact ⟨rfl, HM1.out⟩
  have hn3 : n ≤ 100 := by omega
  obtain ⟨d0, d1, -, -, hdl⟩ := HD1.out.two
  go_wp2_with fail
  refine (CMV.out _ hn3 HM1.out).mono ?_
  rintro e wa ⟨v, rfl, ⟨AP, np, cp, rfl⟩, hov, hma⟩
  have HMa := hid_ (HM1.out.trans hma (fun _ _ h => h))
  have HBa := hid_ (hma.bk HB1.out id)
  have HDa := hid_ (hma.bk HD1.out id)
  have HOV := hid_ hov
  clear hma hov HB1 HD1 HM1 d0 d1 hdl
  obtain ⟨d0, d1, -, -, hdl⟩ := HDa.out.two
  obtain ⟨b0, b1, b2, b3, -, -, -, -, hbl⟩ := HBa.out.four
  go_wp2_with fail
  have HLIT := hid_ (Bk.new wa 24 [.int .i64 b.lo.x, .int .i64 b.lo.y, .int .i64 b.hi.x, .int .i64 b.hi.y])
  have HMl := hid_ (HMa.out.alloc (.cells #[.int .i64 b.lo.x, .int .i64 b.lo.y, .int .i64 b.hi.x, .int .i64 b.hi.y] 24))
  have hlit : PtsAt (wa.alloc (.cells #[.int .i64 b.lo.x, .int .i64 b.lo.y, .int .i64 b.hi.x, .int .i64 b.hi.y] 24)) (wa.alloc (.cells #[.int .i64 b.lo.x, .int .i64 b.lo.y, .int .i64 b.hi.x, .int .i64 b.hi.y] 24)).heap.size (some ⟨wa.heap.size, 0, none⟩) [b.lo, b.hi] := by
    intro k p hk
    match k, hk with
    | 0, hk => cases hk; exact ⟨_, _, rfl, HLIT.out.lt, by rw [HLIT.out.cell]; rfl, by rw [HLIT.out.cell]; rfl⟩
    | 1, hk => cases hk; exact ⟨_, _, rfl, HLIT.out.lt, by rw [HLIT.out.cell]; rfl, by rw [HLIT.out.cell]; rfl⟩
  refine (moved_any _ (some ⟨wa.heap.size, 0, none⟩) 2 2 [b.lo, b.hi] d rfl hlit (by decide)).mono ?_
  rintro e w2 ⟨v, rfl, ⟨AQ, nq, cq, rfl⟩, hoq, hmq⟩
  have hmaq := ((Mod.refl Nothing wa).alloc (.cells #[.int .i64 b.lo.x, .int .i64 b.lo.y, .int .i64 b.hi.x, .int .i64 b.hi.y] 24)).trans hmq (fun _ _ h => h)
  have HM2 := hid_ (HMa.out.trans hmaq (fun _ _ h => h))
  have HB2 := hid_ (hmaq.bk HBa.out id)
  have HD2 := hid_ (hmaq.bk HDa.out id)
  have HOV2 := hid_ (show movedB l d = true → OwnPts w2 (.slice AP np cp) (l.map (shift d)) from fun h => own_keep (HOV.out h) (fun k hk => hmaq.block k (own_lt (HOV.out h) hk) id))
  have HOQ := hid_ hoq
  clear hmq hmaq hoq hlit HLIT HMl HBa HDa HOV HMa d0 d1 hdl b0 b1 b2 b3 hbl
  cases hv1 : movedB l d with
  | false =>
    rw [hv1] at HOV2
    go_wp2
    go_returns
    exact ⟨rfl, HM2.out⟩
  | true =>
  have HMV1 := hid_ hv1
  cases hv2 : movedB [b.lo, b.hi] d with
  | false =>
    go_wp2
    go_returns
    exact ⟨rfl, HM2.out⟩
  | true =>
  have HMV2 := hid_ hv2
  obtain ⟨AP', cp', ep, hp2, _⟩ := (HOV2.out hv1).form
  rw [List.length_map, HN.out] at ep
  injection ep with e1 e2 e3
  subst e1; obtain rfl := e2.symm; subst e3
  have HP2 := hid_ hp2
  obtain ⟨AQ', cq', eq, hq2, _⟩ := (HOQ.out hv2).form
  injection eq with e1 e2 e3
  have e2' : nq = 2 := e2
  subst e1; subst e2'; subst e3
  obtain ⟨mb, mo, hA, hmb, g0, g1⟩ := hq2 0 (shift d b.lo) rfl
  obtain ⟨mb', mo', hA', hmb', g2, g3⟩ := hq2 1 (shift d b.hi) rfl
  rw [hA] at hA'
  simp only [Option.some.injEq, Addr.mk.injEq] at hA'
  obtain ⟨rfl, rfl, -⟩ := hA'
  subst hA
  rw [Nat.zero_mul, Nat.add_zero] at g0 g1
  rw [Nat.one_mul] at g2 g3
  have near_wf' : ∀ p, nearB p = true → PtWf p := fun p h => by have := nearB_iff.1 h; exact ⟨⟨by omega, by omega⟩, by omega, by omega⟩
  have HWM := hid_ (show ∀ p ∈ l.map (shift d), PtWf p from fun p hp => near_wf' p (List.all_eq_true.1 (moved_near hv1).2 p hp))
  have HWB := hid_ (show BxWf (shiftB d b) from ⟨near_wf' _ (List.all_eq_true.1 (moved_near hv2).2 _ (by simp [shiftB])), near_wf' _ (List.all_eq_true.1 (moved_near hv2).2 _ (by simp [shiftB]))⟩)
  clear hq2 hp2 hv1 hv2 hmb' HOQ HOV2 near_wf'
  go_wp2_with fail
  refine wp_region_ghost 0 (fun γ => [.slice (some ⟨mb, mo, none⟩) 2 cq, .pointer (some ⟨mb, mo, none⟩), ptV (shift d b.lo), .slice (some ⟨mb, mo, none⟩) 2 cq, .pointer (some ⟨mb, mo + 2, none⟩), ptV (shift d b.hi), bxV (shiftB d b), .pointer (some ⟨γ, 0, none⟩), undef]) (BoxQ w2 (shiftB d b)) (by kernel_rfl) (by kernel_rfl)
    (fun γ => by simp only [putAll, Act.put, List.setIfInBounds_toArray, List.set_cons_zero, List.set_cons_succ]; rfl) (⟨(Mod.refl _ _).drew, fun h => by simp at h, fun h => by simp at h⟩) ?_ ?_
  · refine ⟨?_, ?_, ?_, ?_, ?_, ?_, ?_, ?_, ?_, trivial⟩
    · intro L γ w' hun hw hC
      refine step_yes rfl ?_
      have HC := hid_ hC
      clear hun hw hC
      go_simp
      exact turned γ rfl (HC.out.skip (Mod.refl _ _) 0 (by decide) (by decide))
    · intro L γ w' hun hw hC
      refine step_yes rfl ?_
      have HC := hid_ hC
      clear hun hw hC
      go_simp
      exact turned γ rfl (HC.out.skip (Mod.refl _ _) 1 (by decide) (by decide))
    · intro L γ w' hun hw hC
      refine step_yes rfl ?_
      have HC := hid_ hC
      have m0 := (HC.out.base.cell (p := ⟨mb, mo, none⟩) hmb id).trans g0
      have m1 := (HC.out.base.cell (p := ⟨mb, mo + 1, none⟩) hmb id).trans g1
      clear hun hw hC
      go_simp
      exact turned γ rfl (HC.out.skip (Mod.refl _ _) 2 (by decide) (by decide))
    · intro L γ w' hun hw hC
      refine step_yes rfl ?_
      have HC := hid_ hC
      clear hun hw hC
      go_simp
      exact turned γ rfl (HC.out.skip (Mod.refl _ _) 3 (by decide) (by decide))
    · intro L γ w' hun hw hC
      refine step_yes rfl ?_
      have HC := hid_ hC
      clear hun hw hC
      go_simp
      exact turned γ rfl (HC.out.skip (Mod.refl _ _) 4 (by decide) (by decide))
    · intro L γ w' hun hw hC
      refine step_yes rfl ?_
      have HC := hid_ hC
      have m0 := (HC.out.base.cell (p := ⟨mb, mo + 2, none⟩) hmb id).trans g2
      have m1 := (HC.out.base.cell (p := ⟨mb, mo + 3, none⟩) hmb id).trans g3
      clear hun hw hC
      go_simp
      exact turned γ rfl (HC.out.skip (Mod.refl _ _) 5 (by decide) (by decide))
    · intro L γ w' hun hw hC
      refine step_yes rfl ?_
      have HC := hid_ hC
      clear hun hw hC
      go_simp
      exact turned γ rfl (HC.out.skip (Mod.refl _ _) 6 (by decide) (by decide))
    · intro L γ w' hun hw hC
      refine step_yes rfl ?_
      have HC := hid_ hC
      have HU := hid_ hun
      clear hun hw hC
      go_simp
      exact turned w'.heap.size rfl (HC.out.new1 HU.out)
    · intro L γ w' hun hw hC
      refine step_yes rfl ?_
      have hl : L.getD 7 false = true := hw ⟨7, .data⟩ (by simp) rfl
      have hb := (hC.t hl).2
      rw [getD_un hun] at hb
      obtain ⟨c0, c1, c2, c3, f0, f1, f2, f3, hlt0⟩ := hb.four
      have HC := hid_ hC
      have HU := hid_ hun
      have HLL := hid_ hl
      clear hun hw hC hl hb
      go_simp
      exact turned γ rfl (HC.out.put1 HU.out HLL.out)
  · intro L γ w' hall hC
    have ht := hC.t (hall 7 (by decide))
    rw [if_pos (hall 8 (by decide))] at ht
    obtain ⟨w3, hw3⟩ : ∃ w3, w3 = w' := ⟨_, rfl⟩
    rw [← hw3] at ht hC ⊢
    have HC3 := hid_ ht.2
    have HM3 := hid_ (HM2.out.trans hC.base (fun _ _ h => h))
    have HB3 := hid_ (hC.base.bk HB2.out id)
    have HD3 := hid_ (hC.base.bk HD2.out id)
    have HP3 := hid_ ((HP2.out.mod hC.base (Nat.le_refl _) (fun _ _ => id)).mono hC.base.size)
    clear hall hC ht hw3 g0 g1 g2 g3
    obtain ⟨b0, b1, b2, b3, -, -, -, -, hbl⟩ := HB3.out.four
    go_wp2_with fail
    refine (CL.out _ hn3 HM3.out).mono ?_
    rintro e w4 ⟨v, rfl, hp, hm4⟩
    obtain ⟨AV, cv, rfl, hrd⟩ := hp.rd
    have HM4 := hid_ (HM3.out.trans hm4 (fun _ _ h => h))
    have HC4 := hid_ (hm4.bk HC3.out id)
    have HB4 := hid_ (hm4.bk HB3.out id)
    have HD4 := hid_ (hm4.bk HD3.out id)
    have HP4 := hid_ ((HP3.out.mod hm4 (Nat.le_refl _) (fun _ _ => id)).mono hm4.size)
    have HR := hid_ hrd
    clear hm4 hp hrd HC3 HB3 HD3 HP3 HM3 b0 b1 b2 b3 hbl
    obtain ⟨s0, s1, s2, s3, -, -, -, -, hsl⟩ := HC4.out.four
    go_wp2_with fail
    have CL2 := line_any (w := w4) AP cp n (l.map (shift d)) (shiftB d b) (by rw [List.length_map, HN.out]) HP4.out (by omega) HWM.out HWB.out
    generalize hSB : shiftB d b = SB at CL2 ⊢
    refine CL2.mono ?_
    subst hSB
    rintro e w5 ⟨v, rfl, hp, hm5⟩
    obtain ⟨AV2, cv2, e5, hrd5⟩ := hp.rd
    rw [lineF_shift HMV1.out HMV2.out, List.length_map] at e5
    subst e5
    have HM5 := hid_ (HM4.out.trans hm5 (fun _ _ h => h))
    have HC3 := hid_ (hm5.bk HC4.out id)
    have HB3 := hid_ (hm5.bk HB4.out id)
    have HD3 := hid_ (hm5.bk HD4.out id)
    have HP5 := hid_ ((HP4.out.mod hm5 (Nat.le_refl _) (fun _ _ => id)).mono hm5.size)
    have HR5 := hid_ (HR.out.mod hm5)
    have HV5 := hid_ hrd5
    have hpl : (lineF l b).length ≤ 101 := Nat.le_trans (lineF_len l b) (by rw [HN.out]; omega)
    have hrl : (ringF l b).length ≤ 1600 := Nat.le_trans (ringF_len l b) (by rw [HN.out]; omega)
    have hpx : ∀ x ∈ lineF l b, x.length ≤ 200 := fun x hx => Nat.le_trans (lineF_each l b x hx) (by rw [HN.out]; omega)
    have HPX := hid_ hpx
    clear hm5 hp hrd5 HR HC4 HB4 HD4 HP4 HM4 s0 s1 s2 s3 hsl hpx
    go_wp2_with fail
    go_loopw [15] (fun v wr => ∃ k : Nat, k ≤ (lineF l b).length ∧ v = .int .i64 k ∧ Mod Nothing w5 wr) (fun v _ => (lineF l b).length - (intOf v).toNat)
    case atStart => exact ⟨0, Nat.zero_le _, rfl, Mod.refl _ _⟩
    case round =>
      obtain ⟨k, hk, rfl, hmd⟩ := hrel
      have HM := hid_ hmd
      have HMW := hid_ (HM5.out.trans hmd (fun _ _ h => h))
      have HR2 := hid_ (HR5.out.mod hmd)
      have HV2 := hid_ (HV5.out.mod hmd)
      have HB3 := hid_ (hmd.bk HB3.out id)
      have HD3 := hid_ (hmd.bk HD3.out id)
      have HC3 := hid_ (hmd.bk HC3.out id)
      have HP6 := hid_ ((HP5.out.mod hmd (Nat.le_refl _) (fun _ _ => id)).mono hmd.size)
      clear hmd
      by_cases hlt : k < (lineF l b).length
      · obtain ⟨x, hx⟩ : ∃ x, (lineF l b)[k]? = some x := ⟨_, List.getElem?_eq_getElem hlt⟩
        have hrx : (lineF (l.map (shift d)) (shiftB d b))[k]? = some (x.map (shift d)) := by
          rw [lineF_shift HMV1.out HMV2.out, List.getElem?_map, hx]; rfl
        have hmem := List.mem_of_getElem? hx
        obtain ⟨bb, off, A1, c1, hA1, hbb, p0, hpp⟩ := HR2.out k x hx
        obtain ⟨b2, o2, A3, c3, hA3, hb2, q0, hqq⟩ := HV2.out k _ hrx
        rw [List.length_map] at q0
        have hx4 := HPX.out x hmem
        have HPP := hid_ hpp
        have HQQ := hid_ hqq
        have HMV := hid_ (moved_in (d := d) HMV2.out (lineF_in l b x hmem).1.all (fun _ => trivial))
        have CM := hid_ (fun w' (hm' : Mod Nothing wr.drew w') => moved_any w' A1 c1 x.length x d rfl ((HPP.out.mod hm'.of_drew (Nat.le_refl _) (fun _ _ => id)).mono hm'.size) (by omega))
        have v1 : (0 : Int) ≤ (k : Int) := by omega
        have v2 : (k : Int) < (lineF l b).length := by omega
        subst hA1
        subst hA3
        clear hpp hqq hx hrx hmem
        go_wp2_with fail
        refine wp_region_known (Kt.at [.no, .no, .no, .no, .no, .tup (x.map (shift d)), .tup (x.map (shift d)), .pts (x.map (shift d)), .no, .pts (x.map (shift d)), .no]) (fun γ => [.slice (some ⟨bb, off, none⟩) (lineF l b).length cv, .int .i64 k, .pointer (some ⟨bb, off + k, none⟩), .slice A1 x.length c1, ptV d, γ 5, γ 6, γ 7, .bool true, γ 9, .bool true]) (by kernel_rfl) (by kernel_rfl)
          (fun γ => by simp only [putAll, Act.put, List.setIfInBounds_toArray, List.set_cons_zero, List.set_cons_succ]; rfl) (Kt.at_mod _) ?_ ?_
        · refine ⟨?_, ?_, ?_, ?_, ?_, ?_, ?_, ?_, ?_, ?_, ?_, trivial⟩
          · intro γ w' hm hk
            refine step_yes rfl ?_
            clear hk hm
            go_simp
            exact known undef rfl (Mod.refl _ _) trivial
          · intro γ w' hm hk
            refine step_yes rfl ?_
            clear hk hm
            go_simp
            exact known undef rfl (Mod.refl _ _) trivial
          · intro γ w' hm hk
            refine step_yes rfl ?_
            clear hk hm
            go_simp
            exact known undef rfl (Mod.refl _ _) trivial
          · intro γ w' hm hk
            refine step_yes rfl ?_
            have c0 := (hm.cell (p := ⟨bb, off + k, none⟩) hbb id).trans p0
            clear hk hm
            go_simp
            exact known undef rfl (Mod.refl _ _) trivial
          · intro γ w' hm hk
            refine step_yes rfl ?_
            obtain ⟨d0, d1, -, -, hdl⟩ := (hm.bk HD3.out id).two
            clear hk hm
            go_simp
            exact known undef rfl (Mod.refl _ _) trivial
          · intro γ w' hm hk
            refine step_yes rfl ?_
            have HC := hid_ (CM.out w' hm)
            clear hk hm
            go_simp
            refine HC.out.mono ?_
            rintro e w3 ⟨v, rfl, -, ho, hm⟩
            exact known (.tuple #[v, .bool (movedB x d)]) rfl hm ⟨v, by rw [HMV.out], (ho HMV.out).pv⟩
          · intro γ w' hm hk
            refine step_yes rfl ?_
            have h5 : TupV w' (γ 5) (x.map (shift d)) := hk ⟨5, .data⟩ (by simp) rfl
            have H5 := hid_ h5
            clear hk hm h5
            go_simp
            refine known (γ 5) rfl (Mod.refl _ _) ?_
            exact H5.out
          · intro γ w' hm hk
            refine step_yes rfl ?_
            obtain ⟨u, e, hu⟩ : TupV w' (γ 6) (x.map (shift d)) := hk ⟨6, .data⟩ (by simp) rfl
            have E := hid_ e
            have HU := hid_ hu
            clear hk hm e hu
            go_simp
            simp only [E.out]
            go_simp
            exact known u (by rw [← E.out]; rfl) (Mod.refl _ _) HU.out
          · intro γ w' hm hk
            refine step_yes rfl ?_
            obtain ⟨u, e, hu⟩ : TupV w' (γ 6) (x.map (shift d)) := hk ⟨6, .data⟩ (by simp) rfl
            have E := hid_ e
            have HU := hid_ hu
            clear hk hm e hu
            go_simp
            simp only [E.out]
            go_simp
            exact known undef (by rw [← E.out]; rfl) (Mod.refl _ _) trivial
          · intro γ w' hm hk
            refine step_yes rfl ?_
            have h5 : PtsV w' (γ 7) (x.map (shift d)) := hk ⟨7, .data⟩ (by simp) rfl
            have H5 := hid_ h5
            clear hk hm h5
            go_simp
            refine known (γ 7) rfl (Mod.refl _ _) ?_
            exact H5.out
          · intro γ w' hm hk
            refine step_yes rfl ?_
            clear hk hm
            go_simp
            exact known undef rfl (Mod.refl _ _) trivial
        · intro γ w4 hm4 hall
          obtain ⟨A4, c4, e4, h4⟩ : PtsV w4 (γ 9) (x.map (shift d)) := hall 9 (by decide)
          rw [List.length_map] at e4
          rw [e4]
          generalize γ 5 = t5
          generalize γ 6 = t6
          generalize γ 7 = t7
          have HM4 := hid_ (HM.out.trans hm4 (fun _ _ h => h))
          have hqq4 := (HQQ.out.mod hm4 (Nat.le_refl _) (fun _ _ => id)).mono hm4.size
          have q0 := (hm4.cell (p := ⟨b2, o2 + k, none⟩) hb2 id).trans q0
          have hb2 : b2 < w4.heap.size := Nat.lt_of_lt_of_le hb2 hm4.size
          have HS := hid_ (same_any w4 A4 A3 c4 c3 x.length x.length (x.map (shift d)) (x.map (shift d)) (by simp) (by simp) h4 hqq4 (by omega) (by omega))
          rw [decide_eq_true (rfl : x.map (shift d) = x.map (shift d))] at HS
          clear hm4 hall e4 h4 hqq4
          go_wp2_with fail
          refine HS.out.mono ?_
          rintro e w5 ⟨rfl, hm5⟩
          have HM5 := hid_ (HM4.out.trans hm5 (fun _ _ h => h))
          clear hm5 p0 q0
          go_wp2
          go_roundw
          case rel => exact ⟨k + 1, by omega, by go_num, HM5.out⟩
          case measure => simp [intOf] <;> omega
      · have hkn : k = (lineF l b).length := by omega
        subst hkn
        have HRM := hid_ (show movedB (ringF l b) d = true from moved_in (d := d) HMV2.out (by
          rcases ringF_in l b with e | ⟨h, _⟩
          · rw [e]; intro p hp; simp at hp
          · exact h.all) (fun _ => trivial))
        have CR2 := hid_ (fun w' (hm' : Mod Nothing wr w') => ring_any (w := w') AP cp n (l.map (shift d)) (shiftB d b) (by rw [List.length_map, HN.out]) ((HP6.out.mod hm' (Nat.le_refl _) (fun _ _ => id)).mono hm'.size) (by omega) HWM.out HWB.out)
        rw [ringF_shift HMV1.out HMV2.out] at CR2
        have hmd' := hid_ (Mod.refl Nothing wr)
        go_wp2_with fail
        refine wp_region_known (Kt.at [.no, .no, .pts (ringF l b), .no, .tup ((ringF l b).map (shift d)), .tup ((ringF l b).map (shift d)), .pts ((ringF l b).map (shift d)), .no, .pts ((ringF l b).map (shift d)), .no]) (fun γ => [.slice A n c, bxV b, γ 2, ptV d, γ 4, γ 5, γ 6, .bool true, γ 8, .bool true]) (by kernel_rfl) (by kernel_rfl)
          (fun γ => by simp only [putAll, Act.put, List.setIfInBounds_toArray, List.set_cons_zero, List.set_cons_succ]; rfl) (Kt.at_mod _) ?_ ?_
        · refine ⟨?_, ?_, ?_, ?_, ?_, ?_, ?_, ?_, ?_, ?_, trivial⟩
          · intro γ w' hm hk
            refine step_yes rfl ?_
            clear hk hm
            go_simp
            exact known undef rfl (Mod.refl _ _) trivial
          · intro γ w' hm hk
            refine step_yes rfl ?_
            obtain ⟨b0, b1, b2, b3, -, -, -, -, hbl⟩ := (hm.bk HB3.out id).four
            clear hk hm
            go_simp
            exact known undef rfl (Mod.refl _ _) trivial
          · intro γ w' hm hk
            refine step_yes rfl ?_
            have HC := hid_ (CRG.out w' hn3 (HMW.out.trans hm.of_drew (fun _ _ h => h)))
            clear hk hm
            go_simp
            refine HC.out.mono ?_
            rintro e w3 ⟨v, rfl, ho, -, hm⟩
            exact known v rfl hm ho.pv
          · intro γ w' hm hk
            refine step_yes rfl ?_
            obtain ⟨d0, d1, -, -, hdl⟩ := (hm.bk HD3.out id).two
            clear hk hm
            go_simp
            exact known undef rfl (Mod.refl _ _) trivial
          · intro γ w' hm hk
            refine step_yes rfl ?_
            obtain ⟨A4, c4, e4, h4⟩ : PtsV w' (γ 2) (ringF l b) := hk ⟨2, .data⟩ (by simp) rfl
            have HC := hid_ (moved_any w' A4 c4 (ringF l b).length (ringF l b) d rfl h4 (by omega))
            have E := hid_ e4
            clear hk hm e4 h4
            go_simp
            refine calls_args (by rw [E.out]) ?_
            refine HC.out.mono ?_
            rintro e w3 ⟨v, rfl, -, ho, hm⟩
            exact known (.tuple #[v, .bool (movedB (ringF l b) d)]) rfl hm ⟨v, by rw [HRM.out], (ho HRM.out).pv⟩
          · intro γ w' hm hk
            refine step_yes rfl ?_
            have h5 : TupV w' (γ 4) ((ringF l b).map (shift d)) := hk ⟨4, .data⟩ (by simp) rfl
            have H5 := hid_ h5
            clear hk hm h5
            go_simp
            refine known (γ 4) rfl (Mod.refl _ _) ?_
            exact H5.out
          · intro γ w' hm hk
            refine step_yes rfl ?_
            obtain ⟨u, e, hu⟩ : TupV w' (γ 5) ((ringF l b).map (shift d)) := hk ⟨5, .data⟩ (by simp) rfl
            have E := hid_ e
            have HU := hid_ hu
            clear hk hm e hu
            go_simp
            simp only [E.out]
            go_simp
            exact known u (by rw [← E.out]; rfl) (Mod.refl _ _) HU.out
          · intro γ w' hm hk
            refine step_yes rfl ?_
            obtain ⟨u, e, hu⟩ : TupV w' (γ 5) ((ringF l b).map (shift d)) := hk ⟨5, .data⟩ (by simp) rfl
            have E := hid_ e
            have HU := hid_ hu
            clear hk hm e hu
            go_simp
            simp only [E.out]
            go_simp
            exact known undef (by rw [← E.out]; rfl) (Mod.refl _ _) trivial
          · intro γ w' hm hk
            refine step_yes rfl ?_
            have h5 : PtsV w' (γ 6) ((ringF l b).map (shift d)) := hk ⟨6, .data⟩ (by simp) rfl
            have H5 := hid_ h5
            clear hk hm h5
            go_simp
            refine known (γ 6) rfl (Mod.refl _ _) ?_
            exact H5.out
          · intro γ w' hm hk
            refine step_yes rfl ?_
            clear hk hm
            go_simp
            exact known undef rfl (Mod.refl _ _) trivial
        · intro γ w4 hm4 hall
          obtain ⟨A4, c4, e4, h4⟩ : PtsV w4 (γ 8) ((ringF l b).map (shift d)) := hall 8 (by decide)
          rw [e4]
          generalize γ 2 = t2
          generalize γ 4 = t4
          generalize γ 5 = t5
          generalize γ 6 = t6
          have HM4 := hid_ (HMW.out.trans hm4 (fun _ _ h => h))
          have H4 := hid_ h4
          have HMm := hid_ (hmd'.out.trans hm4 (fun _ _ h => h))
          obtain ⟨s0, s1, s2, s3, -, -, -, -, hsl⟩ := (HMm.out.bk HC3.out id).four
          clear hm4 hall e4 h4
          go_wp2_with fail
          have CR3 := CR2.out w4 HMm.out
          generalize hSB : shiftB d b = SB at CR3 ⊢
          refine CR3.mono ?_
          subst hSB
          rintro e w5 ⟨v, rfl, ho, -, hm5⟩
          obtain ⟨A6, c6, rfl, h6⟩ := ho.pv
          have HM5 := hid_ (HM4.out.trans hm5 (fun _ _ h => h))
          have H5 := (H4.out.mod hm5 (Nat.le_refl _) (fun _ _ => id)).mono hm5.size
          have HS := hid_ (same_any w5 A4 A6 c4 c6 (ringF l b).length (ringF l b).length ((ringF l b).map (shift d)) ((ringF l b).map (shift d)) (by rw [List.length_map]) (by rw [List.length_map]) H5 h6 (by omega) (by omega))
          rw [decide_eq_true (rfl : (ringF l b).map (shift d) = (ringF l b).map (shift d))] at HS
          clear hm5 ho h6 H5 s0 s1 s2 s3 hsl
          go_wp2_with fail
          refine HS.out.mono ?_
          rintro e w6 ⟨rfl, hm6⟩
          have HM6 := hid_ (HM5.out.trans hm6 (fun _ _ h => h))
          clear hm6
          go_wp2
          go_returns
          exact ⟨rfl, HM6.out⟩
end Go.Proofs.Ytadiajlegajclaa
