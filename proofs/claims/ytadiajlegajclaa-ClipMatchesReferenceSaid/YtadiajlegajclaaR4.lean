/- The reference: kept, across. -/
import Derived.Test.YtadiajlegajclaaP9
set_option linter.unusedVariables false
set_option linter.unusedSimpArgs false
namespace Go.Proofs.Ytadiajlegajclaa
open Go.RowKit

theorem rkept0 (p : Pt) (b : Bx) (w : World) : Calls Try.prog 39 #[ptV p, bxV b, .int .i64 0] w (BPost (keepsF 0 b p) w) := by
  go_enter Try.func39, Try.ntmps39
  go_wp2
  all_goals
    go_returns
    refine ⟨ret_bool ?_, ((Mod.refl _ _).alloc _).alloc _⟩
    rw [Bool.eq_iff_iff]
    unfold keepsF coord limitC
    simp
    try omega
theorem rkept1 (p : Pt) (b : Bx) (w : World) : Calls Try.prog 39 #[ptV p, bxV b, .int .i64 1] w (BPost (keepsF 1 b p) w) := by
  go_enter Try.func39, Try.ntmps39
  go_wp2
  all_goals
    go_returns
    refine ⟨ret_bool ?_, ((Mod.refl _ _).alloc _).alloc _⟩
    rw [Bool.eq_iff_iff]
    unfold keepsF coord limitC
    simp
    try omega
theorem rkept2 (p : Pt) (b : Bx) (w : World) : Calls Try.prog 39 #[ptV p, bxV b, .int .i64 2] w (BPost (keepsF 2 b p) w) := by
  go_enter Try.func39, Try.ntmps39
  go_wp2
  all_goals
    go_returns
    refine ⟨ret_bool ?_, ((Mod.refl _ _).alloc _).alloc _⟩
    rw [Bool.eq_iff_iff]
    unfold keepsF coord limitC
    simp
    try omega
theorem rkept3 (p : Pt) (b : Bx) (w : World) : Calls Try.prog 39 #[ptV p, bxV b, .int .i64 3] w (BPost (keepsF 3 b p) w) := by
  go_enter Try.func39, Try.ntmps39
  go_wp2
  all_goals
    go_returns
    refine ⟨ret_bool ?_, ((Mod.refl _ _).alloc _).alloc _⟩
    rw [Bool.eq_iff_iff]
    unfold keepsF coord limitC
    simp
    try omega
theorem rkept_any {k : Nat} (hk : k < 4) (p : Pt) (b : Bx) (w : World) : Calls Try.prog 39 #[ptV p, bxV b, .int .i64 k] w (BPost (keepsF k b p) w) := by
  have h : k = 0 ∨ k = 1 ∨ k = 2 ∨ k = 3 := by omega
  rcases h with rfl | rfl | rfl | rfl
  · exact rkept0 p b w
  · exact rkept1 p b w
  · exact rkept2 p b w
  · exact rkept3 p b w

/-- The other coordinate where the line from p to q meets the limit c of the first one. -/
def rOther (c p1 q1 p2 q2 : Int) : Int := p2 + (if q1 - p1 < 0 then rnd (-((c - p1) * (q2 - p2))) (-(q1 - p1)) else rnd ((c - p1) * (q2 - p2)) (q1 - p1))
def rAcross (i : Nat) (b : Bx) (p q : Pt) : Pt :=
  if i = 0 then ⟨b.lo.x, rOther b.lo.x p.x q.x p.y q.y⟩ else if i = 1 then ⟨b.hi.x, rOther b.hi.x p.x q.x p.y q.y⟩ else if i = 2 then ⟨rOther b.lo.y p.y q.y p.x q.x, b.lo.y⟩ else ⟨rOther b.hi.y p.y q.y p.x q.x, b.hi.y⟩
theorem rOther_pos {c p1 q1 p2 q2 : Int} (h : q1 - p1 ≠ 0) : rOther c p1 q1 p2 q2 = p2 + rnd ((raOf (c - p1) (q1 - p1)).1 * (q2 - p2)) (raOf (c - p1) (q1 - p1)).2 := by
  unfold rOther raOf
  split
  · show _ = p2 + rnd (-(c - p1) * (q2 - p2)) _
    rw [Int.neg_mul]
  · rfl
theorem rOther_neg {c p1 q1 p2 q2 : Int} (h : q1 - p1 ≠ 0) : rOther c p1 q1 p2 q2 = p2 + rnd ((raOf (-c - -p1) (-q1 - -p1)).1 * (q2 - p2)) (raOf (-c - -p1) (-q1 - -p1)).2 := by
  unfold rOther raOf
  by_cases hn : q1 - p1 < 0
  · rw [if_pos hn, if_neg (show ¬ -q1 - -p1 < 0 by omega)]
    show _ = p2 + rnd ((-c - -p1) * (q2 - p2)) (-q1 - -p1)
    rw [show -c - -p1 = -(c - p1) by omega, show -q1 - -p1 = -(q1 - p1) by omega, Int.neg_mul]
  · rw [if_neg hn, if_pos (show -q1 - -p1 < 0 by omega)]
    show _ = p2 + rnd (-(-c - -p1) * (q2 - p2)) (-(-q1 - -p1))
    rw [show -(-c - -p1) = c - p1 by omega, show -(-q1 - -p1) = q1 - p1 by omega]
theorem rAcross_eq {k : Nat} (hk : k < 4) {b : Bx} {p q : Pt} (h : (keepsF k b p != keepsF k b q) = true) : rAcross k b p q = acrossF k b p q := by
  have hc := acrossF_coord h
  have hne := (acrossR_unit h).2
  have key : k = 0 ∨ k = 1 ∨ k = 2 ∨ k = 3 := by omega
  rcases key with rfl | rfl | rfl | rfl
  · have hc' : -(acrossF 0 b p q).x = -b.lo.x := hc
    have hne' : -q.x - -p.x ≠ 0 := hne
    refine Pt.ext_ (by show b.lo.x = _; omega) ?_
    exact rOther_neg (by omega)
  · have hc' : (acrossF 1 b p q).x = b.hi.x := hc
    have hne' : q.x - p.x ≠ 0 := hne
    refine Pt.ext_ hc'.symm ?_
    exact rOther_pos (by omega)
  · have hc' : -(acrossF 2 b p q).y = -b.lo.y := hc
    have hne' : -q.y - -p.y ≠ 0 := hne
    refine Pt.ext_ ?_ (by show b.lo.y = _; omega)
    exact rOther_neg (by omega)
  · have hc' : (acrossF 3 b p q).y = b.hi.y := hc
    have hne' : q.y - p.y ≠ 0 := hne
    refine Pt.ext_ ?_ hc'.symm
    exact rOther_pos (by omega)

theorem rnd_bd2 {a b : Int} (hb : 0 < b) (h1 : -20000000000000 ≤ a) (h2 : a ≤ 20000000000000) : -100000000000000 ≤ rnd a b ∧ rnd a b ≤ 100000000000000 := by
  have k1 : -20000000000000 * b ≤ -20000000000000 * 1 := Int.mul_le_mul_of_nonpos_left (by omega) (by omega)
  have k2 : 20000000000000 * 1 ≤ 20000000000000 * b := Int.mul_le_mul_of_nonneg_left (by omega) (by omega)
  have h3 := le_rnd hb (k := -20000000000000) (a := a) (by omega)
  have h4 := rnd_le hb (k := 20000000000000) (a := a) (by omega)
  omega
set_option maxRecDepth 100000 in
set_option maxHeartbeats 4000000 in
theorem racross0p (p q : Pt) (b : Bx) (w : World) (hp : PtNear p) (hq : PtNear q) (hb0 : PtNear b.lo) (hb1 : PtNear b.hi) (hne : q.x - p.x ≠ 0) (hneg : ¬ q.x - p.x < 0) :
    Calls Try.prog 40 #[ptV p, ptV q, bxV b, .int .i64 0] w (PPost (rAcross 0 b p q) w) := by
  obtain ⟨⟨px1, px2⟩, py1, py2⟩ := hp
  obtain ⟨⟨qx1, qx2⟩, qy1, qy2⟩ := hq
  obtain ⟨⟨lx1, lx2⟩, ly1, ly2⟩ := hb0
  obtain ⟨⟨hx1, hx2⟩, hy1, hy2⟩ := hb1
  obtain ⟨d1, hd1⟩ : ∃ d, q.x - p.x = d := ⟨_, rfl⟩
  obtain ⟨d2, hd2⟩ : ∃ d, q.y - p.y = d := ⟨_, rfl⟩
  obtain ⟨c1, hc1⟩ : ∃ d, b.lo.x - p.x = d := ⟨_, rfl⟩
  have bd1 : -4194304 ≤ d1 ∧ d1 ≤ 4194304 := by omega
  have bd2 : -4194304 ≤ d2 ∧ d2 ≤ 4194304 := by omega
  have bc1 : -4194304 ≤ c1 ∧ c1 ≤ 4194304 := by omega
  obtain ⟨m1, m2⟩ := mul_bd (a := c1) (b := d2) (A := 4194304) (B := 4194304) bc1.1 bc1.2 bd2.1 bd2.2
  obtain ⟨nn, hnn⟩ : ∃ d, c1 * d2 = d := ⟨_, rfl⟩
  rw [hnn] at m1 m2
  rw [hd1] at hneg hne
  have HNEG := hid_ hneg
  have r1 : -100000000000000 ≤ rnd nn d1 ∧ rnd nn d1 ≤ 100000000000000 := rnd_bd2 (by omega) (by omega) (by omega)
  obtain ⟨r1, r2⟩ := r1
  obtain ⟨bd1, bd1'⟩ := bd1
  obtain ⟨bd2, bd2'⟩ := bd2
  obtain ⟨bc1, bc1'⟩ := bc1
  have v1 : IntKind.i64.wrap (q.x - p.x) = d1 := by rw [hd1]; exact IntWalk.i64_in _ (by omega)
  have v2 : IntKind.i64.wrap (q.y - p.y) = d2 := by rw [hd2]; exact IntWalk.i64_in _ (by omega)
  have v3 : IntKind.i64.wrap (b.lo.x - p.x) = c1 := by rw [hc1]; exact IntWalk.i64_in _ (by omega)
  have v4 : IntKind.i64.wrap (c1 * d2) = nn := by rw [hnn]; exact IntWalk.i64_in _ (by omega)
  have v5 : IntKind.i64.wrap (p.y + rnd nn d1) = p.y + rnd nn d1 := IntWalk.i64_in _ (by omega)
  have HD1 := hid_ hd1
  have HD2 := hid_ hd2
  have HC1 := hid_ hc1
  have HNN2 := hid_ hnn
  obtain ⟨b0, b1, b2, b3, hsz, hmod⟩ := four_ w 24 24 26 24 [.int .i64 p.x, .int .i64 p.y] [.int .i64 q.x, .int .i64 q.y] [.int .i64 b.lo.x, .int .i64 b.lo.y, .int .i64 b.hi.x, .int .i64 b.hi.y] [.int .i64 0, .int .i64 0]
  obtain ⟨W, hW⟩ : ∃ W, W = (((w.alloc (.cells #[.int .i64 p.x, .int .i64 p.y] 24)).alloc (.cells #[.int .i64 q.x, .int .i64 q.y] 24)).alloc (.cells #[.int .i64 b.lo.x, .int .i64 b.lo.y, .int .i64 b.hi.x, .int .i64 b.hi.y] 26)).alloc (.cells #[.int .i64 0, .int .i64 0] 24) := ⟨_, rfl⟩
  rw [← hW] at b0 b1 b2 b3 hsz hmod
  obtain ⟨n, hn⟩ : ∃ n, n = w.heap.size := ⟨_, rfl⟩
  rw [← hn] at b0 b1 b2 b3 hsz
  have HP := hid_ b0
  have HO := hid_ b3
  have HM := hid_ hmod
  have HNN := hid_ hn
  clear b0 b1 b2 b3 hmod hd1 hd2 hc1 hnn
  go_enter Try.func40, Try.ntmps40
  go_wp2_with fail
  rw [← hW]
  simp only [← hn]
  clear hW hn
  refine wp_region_stepsL [.int .i64 b.lo.x, .pointer (some ⟨n, 1, none⟩), .int .i64 p.y, .int .i64 nn, .int .i64 d1, .int .i64 (rnd nn d1), .int .i64 (p.y + rnd nn d1), ptV ⟨b.lo.x, p.y + rnd nn d1⟩, undef] (Sto1 W (n + 1 + 1 + 1) 24 (.int .i64 0) (.int .i64 0) (.int .i64 b.lo.x) (.int .i64 (p.y + rnd nn d1)) 8) (by kernel_rfl) (by kernel_rfl)
    (by simp only [putAll, Act.put, List.setIfInBounds_toArray, List.set_cons_zero, List.set_cons_succ]; rfl) (⟨(Mod.refl _ _).drew, HO.out⟩) ?_ ?_
  · refine ⟨?_, ?_, ?_, ?_, ?_, ?_, ?_, ?_, ?_, trivial⟩
    · intro L w' hun hw hC
      refine step_yes rfl ?_
      have HC := hid_ hC
      clear hun hw hC
      go_simp
      exact still rfl (HC.out.skip (j := 0) (by decide) (Mod.refl _ _))
    · intro L w' hun hw hC
      refine step_yes rfl ?_
      have HC := hid_ hC
      clear hun hw hC
      go_simp
      exact still rfl (HC.out.skip (j := 1) (by decide) (Mod.refl _ _))
    · intro L w' hun hw hC
      refine step_yes rfl ?_
      have HC := hid_ hC
      obtain ⟨x0, x1, -, -, xl⟩ := (HC.out.base.bk HP.out (show n ≠ n + 1 + 1 + 1 by omega)).two
      clear hun hw hC
      go_simp
      exact still rfl (HC.out.skip (j := 2) (by decide) (Mod.refl _ _))
    · intro L w' hun hw hC
      refine step_yes rfl ?_
      have HC := hid_ hC
      clear hun hw hC
      go_simp
      exact still rfl (HC.out.skip (j := 3) (by decide) (Mod.refl _ _))
    · intro L w' hun hw hC
      refine step_yes rfl ?_
      have HC := hid_ hC
      clear hun hw hC
      go_simp
      exact still rfl (HC.out.skip (j := 4) (by decide) (Mod.refl _ _))
    · intro L w' hun hw hC
      refine step_yes rfl ?_
      have HC := hid_ hC
      clear hun hw hC
      go_simp
      refine (rround_any nn d1 _ (by omega) (by omega) (by omega) (by omega)).mono ?_
      rintro e w3 ⟨rfl, hm⟩
      exact still rfl (HC.out.skip (j := 5) (by decide) hm)
    · intro L w' hun hw hC
      refine step_yes rfl ?_
      have HC := hid_ hC
      clear hun hw hC
      go_simp
      exact still rfl (HC.out.skip (j := 6) (by decide) (Mod.refl _ _))
    · intro L w' hun hw hC
      refine step_yes rfl ?_
      have HC := hid_ hC
      clear hun hw hC
      go_simp
      exact still rfl (HC.out.skip (j := 7) (by decide) (Mod.refl _ _))
    · intro L w' hun hw hC
      refine step_yes rfl ?_
      have HC := hid_ hC
      have HU := hid_ hun
      obtain ⟨y0, y1, y2, y3, yl⟩ := (show Bk w' (n + 1 + 1 + 1) 24 [.int .i64 0, .int .i64 0] from by have := hC.one; rw [getD_un hun] at this; exact this).two
      clear hun hw hC
      go_simp
      exact still rfl (HC.out.put HU.out)
  · intro L w' hall hC
    have hb := hC.one
    rw [if_pos (hall 8 (by decide))] at hb
    obtain ⟨y0, y1, y2, y3, yl⟩ := hb.two
    have HMW := hid_ (HM.out.trans hC.base (fun i hi e => by have := HNN.out; omega))
    clear hC hall
    go_wp2
    have hfin : rAcross 0 b p q = ⟨b.lo.x, p.y + rnd nn d1⟩ := by
      show (⟨b.lo.x, rOther b.lo.x p.x q.x p.y q.y⟩ : Pt) = _
      unfold rOther
      rw [HD1.out, HD2.out, HC1.out, HNN2.out, if_neg (show ¬ d1 < 0 by have := HNEG.out; omega)]
    exact bodyPost_ret (v := ptV ⟨b.lo.x, p.y + rnd nn d1⟩) (by simp [results, Try.results40, go_sem, y0, y1]) rfl ⟨by rw [hfin], HMW.out⟩
set_option maxRecDepth 100000 in
set_option maxHeartbeats 4000000 in
theorem racross0n (p q : Pt) (b : Bx) (w : World) (hp : PtNear p) (hq : PtNear q) (hb0 : PtNear b.lo) (hb1 : PtNear b.hi) (hne : q.x - p.x ≠ 0) (hneg : q.x - p.x < 0) :
    Calls Try.prog 40 #[ptV p, ptV q, bxV b, .int .i64 0] w (PPost (rAcross 0 b p q) w) := by
  obtain ⟨⟨px1, px2⟩, py1, py2⟩ := hp
  obtain ⟨⟨qx1, qx2⟩, qy1, qy2⟩ := hq
  obtain ⟨⟨lx1, lx2⟩, ly1, ly2⟩ := hb0
  obtain ⟨⟨hx1, hx2⟩, hy1, hy2⟩ := hb1
  obtain ⟨d1, hd1⟩ : ∃ d, q.x - p.x = d := ⟨_, rfl⟩
  obtain ⟨d2, hd2⟩ : ∃ d, q.y - p.y = d := ⟨_, rfl⟩
  obtain ⟨c1, hc1⟩ : ∃ d, b.lo.x - p.x = d := ⟨_, rfl⟩
  have bd1 : -4194304 ≤ d1 ∧ d1 ≤ 4194304 := by omega
  have bd2 : -4194304 ≤ d2 ∧ d2 ≤ 4194304 := by omega
  have bc1 : -4194304 ≤ c1 ∧ c1 ≤ 4194304 := by omega
  obtain ⟨m1, m2⟩ := mul_bd (a := c1) (b := d2) (A := 4194304) (B := 4194304) bc1.1 bc1.2 bd2.1 bd2.2
  obtain ⟨nn, hnn⟩ : ∃ d, c1 * d2 = d := ⟨_, rfl⟩
  rw [hnn] at m1 m2
  rw [hd1] at hneg hne
  have HNEG := hid_ hneg
  have r1 : -100000000000000 ≤ rnd (-nn) (-d1) ∧ rnd (-nn) (-d1) ≤ 100000000000000 := rnd_bd2 (by omega) (by omega) (by omega)
  obtain ⟨r1, r2⟩ := r1
  obtain ⟨bd1, bd1'⟩ := bd1
  obtain ⟨bd2, bd2'⟩ := bd2
  obtain ⟨bc1, bc1'⟩ := bc1
  have v1 : IntKind.i64.wrap (q.x - p.x) = d1 := by rw [hd1]; exact IntWalk.i64_in _ (by omega)
  have v2 : IntKind.i64.wrap (q.y - p.y) = d2 := by rw [hd2]; exact IntWalk.i64_in _ (by omega)
  have v3 : IntKind.i64.wrap (b.lo.x - p.x) = c1 := by rw [hc1]; exact IntWalk.i64_in _ (by omega)
  have v4 : IntKind.i64.wrap (c1 * d2) = nn := by rw [hnn]; exact IntWalk.i64_in _ (by omega)
  have v5 : IntKind.i64.wrap (p.y + rnd (-nn) (-d1)) = p.y + rnd (-nn) (-d1) := IntWalk.i64_in _ (by omega)
  have HD1 := hid_ hd1
  have HD2 := hid_ hd2
  have HC1 := hid_ hc1
  have HNN2 := hid_ hnn
  obtain ⟨b0, b1, b2, b3, hsz, hmod⟩ := four_ w 24 24 26 24 [.int .i64 p.x, .int .i64 p.y] [.int .i64 q.x, .int .i64 q.y] [.int .i64 b.lo.x, .int .i64 b.lo.y, .int .i64 b.hi.x, .int .i64 b.hi.y] [.int .i64 0, .int .i64 0]
  obtain ⟨W, hW⟩ : ∃ W, W = (((w.alloc (.cells #[.int .i64 p.x, .int .i64 p.y] 24)).alloc (.cells #[.int .i64 q.x, .int .i64 q.y] 24)).alloc (.cells #[.int .i64 b.lo.x, .int .i64 b.lo.y, .int .i64 b.hi.x, .int .i64 b.hi.y] 26)).alloc (.cells #[.int .i64 0, .int .i64 0] 24) := ⟨_, rfl⟩
  rw [← hW] at b0 b1 b2 b3 hsz hmod
  obtain ⟨n, hn⟩ : ∃ n, n = w.heap.size := ⟨_, rfl⟩
  rw [← hn] at b0 b1 b2 b3 hsz
  have HP := hid_ b0
  have HO := hid_ b3
  have HM := hid_ hmod
  have HNN := hid_ hn
  clear b0 b1 b2 b3 hmod hd1 hd2 hc1 hnn
  go_enter Try.func40, Try.ntmps40
  go_wp2_with fail
  rw [← hW]
  simp only [← hn]
  clear hW hn
  refine wp_region_stepsL [.int .i64 b.lo.x, .pointer (some ⟨n, 1, none⟩), .int .i64 p.y, .int .i64 (-nn), .int .i64 (-d1), .int .i64 (rnd (-nn) (-d1)), .int .i64 (p.y + rnd (-nn) (-d1)), ptV ⟨b.lo.x, p.y + rnd (-nn) (-d1)⟩, undef] (Sto1 W (n + 1 + 1 + 1) 24 (.int .i64 0) (.int .i64 0) (.int .i64 b.lo.x) (.int .i64 (p.y + rnd (-nn) (-d1))) 8) (by kernel_rfl) (by kernel_rfl)
    (by simp only [putAll, Act.put, List.setIfInBounds_toArray, List.set_cons_zero, List.set_cons_succ]; rfl) (⟨(Mod.refl _ _).drew, HO.out⟩) ?_ ?_
  · refine ⟨?_, ?_, ?_, ?_, ?_, ?_, ?_, ?_, ?_, trivial⟩
    · intro L w' hun hw hC
      refine step_yes rfl ?_
      have HC := hid_ hC
      clear hun hw hC
      go_simp
      exact still rfl (HC.out.skip (j := 0) (by decide) (Mod.refl _ _))
    · intro L w' hun hw hC
      refine step_yes rfl ?_
      have HC := hid_ hC
      clear hun hw hC
      go_simp
      exact still rfl (HC.out.skip (j := 1) (by decide) (Mod.refl _ _))
    · intro L w' hun hw hC
      refine step_yes rfl ?_
      have HC := hid_ hC
      obtain ⟨x0, x1, -, -, xl⟩ := (HC.out.base.bk HP.out (show n ≠ n + 1 + 1 + 1 by omega)).two
      clear hun hw hC
      go_simp
      exact still rfl (HC.out.skip (j := 2) (by decide) (Mod.refl _ _))
    · intro L w' hun hw hC
      refine step_yes rfl ?_
      have HC := hid_ hC
      clear hun hw hC
      go_simp
      exact still rfl (HC.out.skip (j := 3) (by decide) (Mod.refl _ _))
    · intro L w' hun hw hC
      refine step_yes rfl ?_
      have HC := hid_ hC
      clear hun hw hC
      go_simp
      exact still rfl (HC.out.skip (j := 4) (by decide) (Mod.refl _ _))
    · intro L w' hun hw hC
      refine step_yes rfl ?_
      have HC := hid_ hC
      clear hun hw hC
      go_simp
      refine (rround_any (-nn) (-d1) _ (by omega) (by omega) (by omega) (by omega)).mono ?_
      rintro e w3 ⟨rfl, hm⟩
      exact still rfl (HC.out.skip (j := 5) (by decide) hm)
    · intro L w' hun hw hC
      refine step_yes rfl ?_
      have HC := hid_ hC
      clear hun hw hC
      go_simp
      exact still rfl (HC.out.skip (j := 6) (by decide) (Mod.refl _ _))
    · intro L w' hun hw hC
      refine step_yes rfl ?_
      have HC := hid_ hC
      clear hun hw hC
      go_simp
      exact still rfl (HC.out.skip (j := 7) (by decide) (Mod.refl _ _))
    · intro L w' hun hw hC
      refine step_yes rfl ?_
      have HC := hid_ hC
      have HU := hid_ hun
      obtain ⟨y0, y1, y2, y3, yl⟩ := (show Bk w' (n + 1 + 1 + 1) 24 [.int .i64 0, .int .i64 0] from by have := hC.one; rw [getD_un hun] at this; exact this).two
      clear hun hw hC
      go_simp
      exact still rfl (HC.out.put HU.out)
  · intro L w' hall hC
    have hb := hC.one
    rw [if_pos (hall 8 (by decide))] at hb
    obtain ⟨y0, y1, y2, y3, yl⟩ := hb.two
    have HMW := hid_ (HM.out.trans hC.base (fun i hi e => by have := HNN.out; omega))
    clear hC hall
    go_wp2
    have hfin : rAcross 0 b p q = ⟨b.lo.x, p.y + rnd (-nn) (-d1)⟩ := by
      show (⟨b.lo.x, rOther b.lo.x p.x q.x p.y q.y⟩ : Pt) = _
      unfold rOther
      rw [HD1.out, HD2.out, HC1.out, HNN2.out, if_pos HNEG.out]
    exact bodyPost_ret (v := ptV ⟨b.lo.x, p.y + rnd (-nn) (-d1)⟩) (by simp [results, Try.results40, go_sem, y0, y1]) rfl ⟨by rw [hfin], HMW.out⟩
set_option maxRecDepth 100000 in
set_option maxHeartbeats 4000000 in
theorem racross1p (p q : Pt) (b : Bx) (w : World) (hp : PtNear p) (hq : PtNear q) (hb0 : PtNear b.lo) (hb1 : PtNear b.hi) (hne : q.x - p.x ≠ 0) (hneg : ¬ q.x - p.x < 0) :
    Calls Try.prog 40 #[ptV p, ptV q, bxV b, .int .i64 1] w (PPost (rAcross 1 b p q) w) := by
  obtain ⟨⟨px1, px2⟩, py1, py2⟩ := hp
  obtain ⟨⟨qx1, qx2⟩, qy1, qy2⟩ := hq
  obtain ⟨⟨lx1, lx2⟩, ly1, ly2⟩ := hb0
  obtain ⟨⟨hx1, hx2⟩, hy1, hy2⟩ := hb1
  obtain ⟨d1, hd1⟩ : ∃ d, q.x - p.x = d := ⟨_, rfl⟩
  obtain ⟨d2, hd2⟩ : ∃ d, q.y - p.y = d := ⟨_, rfl⟩
  obtain ⟨c1, hc1⟩ : ∃ d, b.hi.x - p.x = d := ⟨_, rfl⟩
  have bd1 : -4194304 ≤ d1 ∧ d1 ≤ 4194304 := by omega
  have bd2 : -4194304 ≤ d2 ∧ d2 ≤ 4194304 := by omega
  have bc1 : -4194304 ≤ c1 ∧ c1 ≤ 4194304 := by omega
  obtain ⟨m1, m2⟩ := mul_bd (a := c1) (b := d2) (A := 4194304) (B := 4194304) bc1.1 bc1.2 bd2.1 bd2.2
  obtain ⟨nn, hnn⟩ : ∃ d, c1 * d2 = d := ⟨_, rfl⟩
  rw [hnn] at m1 m2
  rw [hd1] at hneg hne
  have HNEG := hid_ hneg
  have r1 : -100000000000000 ≤ rnd nn d1 ∧ rnd nn d1 ≤ 100000000000000 := rnd_bd2 (by omega) (by omega) (by omega)
  obtain ⟨r1, r2⟩ := r1
  obtain ⟨bd1, bd1'⟩ := bd1
  obtain ⟨bd2, bd2'⟩ := bd2
  obtain ⟨bc1, bc1'⟩ := bc1
  have v1 : IntKind.i64.wrap (q.x - p.x) = d1 := by rw [hd1]; exact IntWalk.i64_in _ (by omega)
  have v2 : IntKind.i64.wrap (q.y - p.y) = d2 := by rw [hd2]; exact IntWalk.i64_in _ (by omega)
  have v3 : IntKind.i64.wrap (b.hi.x - p.x) = c1 := by rw [hc1]; exact IntWalk.i64_in _ (by omega)
  have v4 : IntKind.i64.wrap (c1 * d2) = nn := by rw [hnn]; exact IntWalk.i64_in _ (by omega)
  have v5 : IntKind.i64.wrap (p.y + rnd nn d1) = p.y + rnd nn d1 := IntWalk.i64_in _ (by omega)
  have HD1 := hid_ hd1
  have HD2 := hid_ hd2
  have HC1 := hid_ hc1
  have HNN2 := hid_ hnn
  obtain ⟨b0, b1, b2, b3, hsz, hmod⟩ := four_ w 24 24 26 24 [.int .i64 p.x, .int .i64 p.y] [.int .i64 q.x, .int .i64 q.y] [.int .i64 b.lo.x, .int .i64 b.lo.y, .int .i64 b.hi.x, .int .i64 b.hi.y] [.int .i64 0, .int .i64 0]
  obtain ⟨W, hW⟩ : ∃ W, W = (((w.alloc (.cells #[.int .i64 p.x, .int .i64 p.y] 24)).alloc (.cells #[.int .i64 q.x, .int .i64 q.y] 24)).alloc (.cells #[.int .i64 b.lo.x, .int .i64 b.lo.y, .int .i64 b.hi.x, .int .i64 b.hi.y] 26)).alloc (.cells #[.int .i64 0, .int .i64 0] 24) := ⟨_, rfl⟩
  rw [← hW] at b0 b1 b2 b3 hsz hmod
  obtain ⟨n, hn⟩ : ∃ n, n = w.heap.size := ⟨_, rfl⟩
  rw [← hn] at b0 b1 b2 b3 hsz
  have HP := hid_ b0
  have HO := hid_ b3
  have HM := hid_ hmod
  have HNN := hid_ hn
  clear b0 b1 b2 b3 hmod hd1 hd2 hc1 hnn
  go_enter Try.func40, Try.ntmps40
  go_wp2_with fail
  rw [← hW]
  simp only [← hn]
  clear hW hn
  refine wp_region_stepsL [.int .i64 b.hi.x, .pointer (some ⟨n, 1, none⟩), .int .i64 p.y, .int .i64 nn, .int .i64 d1, .int .i64 (rnd nn d1), .int .i64 (p.y + rnd nn d1), ptV ⟨b.hi.x, p.y + rnd nn d1⟩, undef] (Sto1 W (n + 1 + 1 + 1) 24 (.int .i64 0) (.int .i64 0) (.int .i64 b.hi.x) (.int .i64 (p.y + rnd nn d1)) 8) (by kernel_rfl) (by kernel_rfl)
    (by simp only [putAll, Act.put, List.setIfInBounds_toArray, List.set_cons_zero, List.set_cons_succ]; rfl) (⟨(Mod.refl _ _).drew, HO.out⟩) ?_ ?_
  · refine ⟨?_, ?_, ?_, ?_, ?_, ?_, ?_, ?_, ?_, trivial⟩
    · intro L w' hun hw hC
      refine step_yes rfl ?_
      have HC := hid_ hC
      clear hun hw hC
      go_simp
      exact still rfl (HC.out.skip (j := 0) (by decide) (Mod.refl _ _))
    · intro L w' hun hw hC
      refine step_yes rfl ?_
      have HC := hid_ hC
      clear hun hw hC
      go_simp
      exact still rfl (HC.out.skip (j := 1) (by decide) (Mod.refl _ _))
    · intro L w' hun hw hC
      refine step_yes rfl ?_
      have HC := hid_ hC
      obtain ⟨x0, x1, -, -, xl⟩ := (HC.out.base.bk HP.out (show n ≠ n + 1 + 1 + 1 by omega)).two
      clear hun hw hC
      go_simp
      exact still rfl (HC.out.skip (j := 2) (by decide) (Mod.refl _ _))
    · intro L w' hun hw hC
      refine step_yes rfl ?_
      have HC := hid_ hC
      clear hun hw hC
      go_simp
      exact still rfl (HC.out.skip (j := 3) (by decide) (Mod.refl _ _))
    · intro L w' hun hw hC
      refine step_yes rfl ?_
      have HC := hid_ hC
      clear hun hw hC
      go_simp
      exact still rfl (HC.out.skip (j := 4) (by decide) (Mod.refl _ _))
    · intro L w' hun hw hC
      refine step_yes rfl ?_
      have HC := hid_ hC
      clear hun hw hC
      go_simp
      refine (rround_any nn d1 _ (by omega) (by omega) (by omega) (by omega)).mono ?_
      rintro e w3 ⟨rfl, hm⟩
      exact still rfl (HC.out.skip (j := 5) (by decide) hm)
    · intro L w' hun hw hC
      refine step_yes rfl ?_
      have HC := hid_ hC
      clear hun hw hC
      go_simp
      exact still rfl (HC.out.skip (j := 6) (by decide) (Mod.refl _ _))
    · intro L w' hun hw hC
      refine step_yes rfl ?_
      have HC := hid_ hC
      clear hun hw hC
      go_simp
      exact still rfl (HC.out.skip (j := 7) (by decide) (Mod.refl _ _))
    · intro L w' hun hw hC
      refine step_yes rfl ?_
      have HC := hid_ hC
      have HU := hid_ hun
      obtain ⟨y0, y1, y2, y3, yl⟩ := (show Bk w' (n + 1 + 1 + 1) 24 [.int .i64 0, .int .i64 0] from by have := hC.one; rw [getD_un hun] at this; exact this).two
      clear hun hw hC
      go_simp
      exact still rfl (HC.out.put HU.out)
  · intro L w' hall hC
    have hb := hC.one
    rw [if_pos (hall 8 (by decide))] at hb
    obtain ⟨y0, y1, y2, y3, yl⟩ := hb.two
    have HMW := hid_ (HM.out.trans hC.base (fun i hi e => by have := HNN.out; omega))
    clear hC hall
    go_wp2
    have hfin : rAcross 1 b p q = ⟨b.hi.x, p.y + rnd nn d1⟩ := by
      show (⟨b.hi.x, rOther b.hi.x p.x q.x p.y q.y⟩ : Pt) = _
      unfold rOther
      rw [HD1.out, HD2.out, HC1.out, HNN2.out, if_neg (show ¬ d1 < 0 by have := HNEG.out; omega)]
    exact bodyPost_ret (v := ptV ⟨b.hi.x, p.y + rnd nn d1⟩) (by simp [results, Try.results40, go_sem, y0, y1]) rfl ⟨by rw [hfin], HMW.out⟩
set_option maxRecDepth 100000 in
set_option maxHeartbeats 4000000 in
theorem racross1n (p q : Pt) (b : Bx) (w : World) (hp : PtNear p) (hq : PtNear q) (hb0 : PtNear b.lo) (hb1 : PtNear b.hi) (hne : q.x - p.x ≠ 0) (hneg : q.x - p.x < 0) :
    Calls Try.prog 40 #[ptV p, ptV q, bxV b, .int .i64 1] w (PPost (rAcross 1 b p q) w) := by
  obtain ⟨⟨px1, px2⟩, py1, py2⟩ := hp
  obtain ⟨⟨qx1, qx2⟩, qy1, qy2⟩ := hq
  obtain ⟨⟨lx1, lx2⟩, ly1, ly2⟩ := hb0
  obtain ⟨⟨hx1, hx2⟩, hy1, hy2⟩ := hb1
  obtain ⟨d1, hd1⟩ : ∃ d, q.x - p.x = d := ⟨_, rfl⟩
  obtain ⟨d2, hd2⟩ : ∃ d, q.y - p.y = d := ⟨_, rfl⟩
  obtain ⟨c1, hc1⟩ : ∃ d, b.hi.x - p.x = d := ⟨_, rfl⟩
  have bd1 : -4194304 ≤ d1 ∧ d1 ≤ 4194304 := by omega
  have bd2 : -4194304 ≤ d2 ∧ d2 ≤ 4194304 := by omega
  have bc1 : -4194304 ≤ c1 ∧ c1 ≤ 4194304 := by omega
  obtain ⟨m1, m2⟩ := mul_bd (a := c1) (b := d2) (A := 4194304) (B := 4194304) bc1.1 bc1.2 bd2.1 bd2.2
  obtain ⟨nn, hnn⟩ : ∃ d, c1 * d2 = d := ⟨_, rfl⟩
  rw [hnn] at m1 m2
  rw [hd1] at hneg hne
  have HNEG := hid_ hneg
  have r1 : -100000000000000 ≤ rnd (-nn) (-d1) ∧ rnd (-nn) (-d1) ≤ 100000000000000 := rnd_bd2 (by omega) (by omega) (by omega)
  obtain ⟨r1, r2⟩ := r1
  obtain ⟨bd1, bd1'⟩ := bd1
  obtain ⟨bd2, bd2'⟩ := bd2
  obtain ⟨bc1, bc1'⟩ := bc1
  have v1 : IntKind.i64.wrap (q.x - p.x) = d1 := by rw [hd1]; exact IntWalk.i64_in _ (by omega)
  have v2 : IntKind.i64.wrap (q.y - p.y) = d2 := by rw [hd2]; exact IntWalk.i64_in _ (by omega)
  have v3 : IntKind.i64.wrap (b.hi.x - p.x) = c1 := by rw [hc1]; exact IntWalk.i64_in _ (by omega)
  have v4 : IntKind.i64.wrap (c1 * d2) = nn := by rw [hnn]; exact IntWalk.i64_in _ (by omega)
  have v5 : IntKind.i64.wrap (p.y + rnd (-nn) (-d1)) = p.y + rnd (-nn) (-d1) := IntWalk.i64_in _ (by omega)
  have HD1 := hid_ hd1
  have HD2 := hid_ hd2
  have HC1 := hid_ hc1
  have HNN2 := hid_ hnn
  obtain ⟨b0, b1, b2, b3, hsz, hmod⟩ := four_ w 24 24 26 24 [.int .i64 p.x, .int .i64 p.y] [.int .i64 q.x, .int .i64 q.y] [.int .i64 b.lo.x, .int .i64 b.lo.y, .int .i64 b.hi.x, .int .i64 b.hi.y] [.int .i64 0, .int .i64 0]
  obtain ⟨W, hW⟩ : ∃ W, W = (((w.alloc (.cells #[.int .i64 p.x, .int .i64 p.y] 24)).alloc (.cells #[.int .i64 q.x, .int .i64 q.y] 24)).alloc (.cells #[.int .i64 b.lo.x, .int .i64 b.lo.y, .int .i64 b.hi.x, .int .i64 b.hi.y] 26)).alloc (.cells #[.int .i64 0, .int .i64 0] 24) := ⟨_, rfl⟩
  rw [← hW] at b0 b1 b2 b3 hsz hmod
  obtain ⟨n, hn⟩ : ∃ n, n = w.heap.size := ⟨_, rfl⟩
  rw [← hn] at b0 b1 b2 b3 hsz
  have HP := hid_ b0
  have HO := hid_ b3
  have HM := hid_ hmod
  have HNN := hid_ hn
  clear b0 b1 b2 b3 hmod hd1 hd2 hc1 hnn
  go_enter Try.func40, Try.ntmps40
  go_wp2_with fail
  rw [← hW]
  simp only [← hn]
  clear hW hn
  refine wp_region_stepsL [.int .i64 b.hi.x, .pointer (some ⟨n, 1, none⟩), .int .i64 p.y, .int .i64 (-nn), .int .i64 (-d1), .int .i64 (rnd (-nn) (-d1)), .int .i64 (p.y + rnd (-nn) (-d1)), ptV ⟨b.hi.x, p.y + rnd (-nn) (-d1)⟩, undef] (Sto1 W (n + 1 + 1 + 1) 24 (.int .i64 0) (.int .i64 0) (.int .i64 b.hi.x) (.int .i64 (p.y + rnd (-nn) (-d1))) 8) (by kernel_rfl) (by kernel_rfl)
    (by simp only [putAll, Act.put, List.setIfInBounds_toArray, List.set_cons_zero, List.set_cons_succ]; rfl) (⟨(Mod.refl _ _).drew, HO.out⟩) ?_ ?_
  · refine ⟨?_, ?_, ?_, ?_, ?_, ?_, ?_, ?_, ?_, trivial⟩
    · intro L w' hun hw hC
      refine step_yes rfl ?_
      have HC := hid_ hC
      clear hun hw hC
      go_simp
      exact still rfl (HC.out.skip (j := 0) (by decide) (Mod.refl _ _))
    · intro L w' hun hw hC
      refine step_yes rfl ?_
      have HC := hid_ hC
      clear hun hw hC
      go_simp
      exact still rfl (HC.out.skip (j := 1) (by decide) (Mod.refl _ _))
    · intro L w' hun hw hC
      refine step_yes rfl ?_
      have HC := hid_ hC
      obtain ⟨x0, x1, -, -, xl⟩ := (HC.out.base.bk HP.out (show n ≠ n + 1 + 1 + 1 by omega)).two
      clear hun hw hC
      go_simp
      exact still rfl (HC.out.skip (j := 2) (by decide) (Mod.refl _ _))
    · intro L w' hun hw hC
      refine step_yes rfl ?_
      have HC := hid_ hC
      clear hun hw hC
      go_simp
      exact still rfl (HC.out.skip (j := 3) (by decide) (Mod.refl _ _))
    · intro L w' hun hw hC
      refine step_yes rfl ?_
      have HC := hid_ hC
      clear hun hw hC
      go_simp
      exact still rfl (HC.out.skip (j := 4) (by decide) (Mod.refl _ _))
    · intro L w' hun hw hC
      refine step_yes rfl ?_
      have HC := hid_ hC
      clear hun hw hC
      go_simp
      refine (rround_any (-nn) (-d1) _ (by omega) (by omega) (by omega) (by omega)).mono ?_
      rintro e w3 ⟨rfl, hm⟩
      exact still rfl (HC.out.skip (j := 5) (by decide) hm)
    · intro L w' hun hw hC
      refine step_yes rfl ?_
      have HC := hid_ hC
      clear hun hw hC
      go_simp
      exact still rfl (HC.out.skip (j := 6) (by decide) (Mod.refl _ _))
    · intro L w' hun hw hC
      refine step_yes rfl ?_
      have HC := hid_ hC
      clear hun hw hC
      go_simp
      exact still rfl (HC.out.skip (j := 7) (by decide) (Mod.refl _ _))
    · intro L w' hun hw hC
      refine step_yes rfl ?_
      have HC := hid_ hC
      have HU := hid_ hun
      obtain ⟨y0, y1, y2, y3, yl⟩ := (show Bk w' (n + 1 + 1 + 1) 24 [.int .i64 0, .int .i64 0] from by have := hC.one; rw [getD_un hun] at this; exact this).two
      clear hun hw hC
      go_simp
      exact still rfl (HC.out.put HU.out)
  · intro L w' hall hC
    have hb := hC.one
    rw [if_pos (hall 8 (by decide))] at hb
    obtain ⟨y0, y1, y2, y3, yl⟩ := hb.two
    have HMW := hid_ (HM.out.trans hC.base (fun i hi e => by have := HNN.out; omega))
    clear hC hall
    go_wp2
    have hfin : rAcross 1 b p q = ⟨b.hi.x, p.y + rnd (-nn) (-d1)⟩ := by
      show (⟨b.hi.x, rOther b.hi.x p.x q.x p.y q.y⟩ : Pt) = _
      unfold rOther
      rw [HD1.out, HD2.out, HC1.out, HNN2.out, if_pos HNEG.out]
    exact bodyPost_ret (v := ptV ⟨b.hi.x, p.y + rnd (-nn) (-d1)⟩) (by simp [results, Try.results40, go_sem, y0, y1]) rfl ⟨by rw [hfin], HMW.out⟩
set_option maxRecDepth 100000 in
set_option maxHeartbeats 4000000 in
theorem racross2p (p q : Pt) (b : Bx) (w : World) (hp : PtNear p) (hq : PtNear q) (hb0 : PtNear b.lo) (hb1 : PtNear b.hi) (hne : q.y - p.y ≠ 0) (hneg : ¬ q.y - p.y < 0) :
    Calls Try.prog 40 #[ptV p, ptV q, bxV b, .int .i64 2] w (PPost (rAcross 2 b p q) w) := by
  obtain ⟨⟨px1, px2⟩, py1, py2⟩ := hp
  obtain ⟨⟨qx1, qx2⟩, qy1, qy2⟩ := hq
  obtain ⟨⟨lx1, lx2⟩, ly1, ly2⟩ := hb0
  obtain ⟨⟨hx1, hx2⟩, hy1, hy2⟩ := hb1
  obtain ⟨d1, hd1⟩ : ∃ d, q.y - p.y = d := ⟨_, rfl⟩
  obtain ⟨d2, hd2⟩ : ∃ d, q.x - p.x = d := ⟨_, rfl⟩
  obtain ⟨c1, hc1⟩ : ∃ d, b.lo.y - p.y = d := ⟨_, rfl⟩
  have bd1 : -4194304 ≤ d1 ∧ d1 ≤ 4194304 := by omega
  have bd2 : -4194304 ≤ d2 ∧ d2 ≤ 4194304 := by omega
  have bc1 : -4194304 ≤ c1 ∧ c1 ≤ 4194304 := by omega
  obtain ⟨m1, m2⟩ := mul_bd (a := c1) (b := d2) (A := 4194304) (B := 4194304) bc1.1 bc1.2 bd2.1 bd2.2
  obtain ⟨nn, hnn⟩ : ∃ d, c1 * d2 = d := ⟨_, rfl⟩
  rw [hnn] at m1 m2
  rw [hd1] at hneg hne
  have HNEG := hid_ hneg
  have r1 : -100000000000000 ≤ rnd nn d1 ∧ rnd nn d1 ≤ 100000000000000 := rnd_bd2 (by omega) (by omega) (by omega)
  obtain ⟨r1, r2⟩ := r1
  obtain ⟨bd1, bd1'⟩ := bd1
  obtain ⟨bd2, bd2'⟩ := bd2
  obtain ⟨bc1, bc1'⟩ := bc1
  have v1 : IntKind.i64.wrap (q.y - p.y) = d1 := by rw [hd1]; exact IntWalk.i64_in _ (by omega)
  have v2 : IntKind.i64.wrap (q.x - p.x) = d2 := by rw [hd2]; exact IntWalk.i64_in _ (by omega)
  have v3 : IntKind.i64.wrap (b.lo.y - p.y) = c1 := by rw [hc1]; exact IntWalk.i64_in _ (by omega)
  have v4 : IntKind.i64.wrap (c1 * d2) = nn := by rw [hnn]; exact IntWalk.i64_in _ (by omega)
  have v5 : IntKind.i64.wrap (p.x + rnd nn d1) = p.x + rnd nn d1 := IntWalk.i64_in _ (by omega)
  have HD1 := hid_ hd1
  have HD2 := hid_ hd2
  have HC1 := hid_ hc1
  have HNN2 := hid_ hnn
  obtain ⟨b0, b1, b2, b3, hsz, hmod⟩ := four_ w 24 24 26 24 [.int .i64 p.x, .int .i64 p.y] [.int .i64 q.x, .int .i64 q.y] [.int .i64 b.lo.x, .int .i64 b.lo.y, .int .i64 b.hi.x, .int .i64 b.hi.y] [.int .i64 0, .int .i64 0]
  obtain ⟨W, hW⟩ : ∃ W, W = (((w.alloc (.cells #[.int .i64 p.x, .int .i64 p.y] 24)).alloc (.cells #[.int .i64 q.x, .int .i64 q.y] 24)).alloc (.cells #[.int .i64 b.lo.x, .int .i64 b.lo.y, .int .i64 b.hi.x, .int .i64 b.hi.y] 26)).alloc (.cells #[.int .i64 0, .int .i64 0] 24) := ⟨_, rfl⟩
  rw [← hW] at b0 b1 b2 b3 hsz hmod
  obtain ⟨n, hn⟩ : ∃ n, n = w.heap.size := ⟨_, rfl⟩
  rw [← hn] at b0 b1 b2 b3 hsz
  have HP := hid_ b0
  have HO := hid_ b3
  have HM := hid_ hmod
  have HNN := hid_ hn
  clear b0 b1 b2 b3 hmod hd1 hd2 hc1 hnn
  go_enter Try.func40, Try.ntmps40
  go_wp2_with fail
  rw [← hW]
  simp only [← hn]
  clear hW hn
  refine wp_region_stepsL [.pointer (some ⟨n, 0, none⟩), .int .i64 p.x, .int .i64 nn, .int .i64 d1, .int .i64 (rnd nn d1), .int .i64 (p.x + rnd nn d1), .int .i64 b.lo.y, ptV ⟨p.x + rnd nn d1, b.lo.y⟩, undef] (Sto1 W (n + 1 + 1 + 1) 24 (.int .i64 0) (.int .i64 0) (.int .i64 (p.x + rnd nn d1)) (.int .i64 b.lo.y) 8) (by kernel_rfl) (by kernel_rfl)
    (by simp only [putAll, Act.put, List.setIfInBounds_toArray, List.set_cons_zero, List.set_cons_succ]; rfl) (⟨(Mod.refl _ _).drew, HO.out⟩) ?_ ?_
  · refine ⟨?_, ?_, ?_, ?_, ?_, ?_, ?_, ?_, ?_, trivial⟩
    · intro L w' hun hw hC
      refine step_yes rfl ?_
      have HC := hid_ hC
      clear hun hw hC
      go_simp
      exact still rfl (HC.out.skip (j := 0) (by decide) (Mod.refl _ _))
    · intro L w' hun hw hC
      refine step_yes rfl ?_
      have HC := hid_ hC
      obtain ⟨x0, x1, -, -, xl⟩ := (HC.out.base.bk HP.out (show n ≠ n + 1 + 1 + 1 by omega)).two
      clear hun hw hC
      go_simp
      exact still rfl (HC.out.skip (j := 1) (by decide) (Mod.refl _ _))
    · intro L w' hun hw hC
      refine step_yes rfl ?_
      have HC := hid_ hC
      clear hun hw hC
      go_simp
      exact still rfl (HC.out.skip (j := 2) (by decide) (Mod.refl _ _))
    · intro L w' hun hw hC
      refine step_yes rfl ?_
      have HC := hid_ hC
      clear hun hw hC
      go_simp
      exact still rfl (HC.out.skip (j := 3) (by decide) (Mod.refl _ _))
    · intro L w' hun hw hC
      refine step_yes rfl ?_
      have HC := hid_ hC
      clear hun hw hC
      go_simp
      refine (rround_any nn d1 _ (by omega) (by omega) (by omega) (by omega)).mono ?_
      rintro e w3 ⟨rfl, hm⟩
      exact still rfl (HC.out.skip (j := 4) (by decide) hm)
    · intro L w' hun hw hC
      refine step_yes rfl ?_
      have HC := hid_ hC
      clear hun hw hC
      go_simp
      exact still rfl (HC.out.skip (j := 5) (by decide) (Mod.refl _ _))
    · intro L w' hun hw hC
      refine step_yes rfl ?_
      have HC := hid_ hC
      clear hun hw hC
      go_simp
      exact still rfl (HC.out.skip (j := 6) (by decide) (Mod.refl _ _))
    · intro L w' hun hw hC
      refine step_yes rfl ?_
      have HC := hid_ hC
      clear hun hw hC
      go_simp
      exact still rfl (HC.out.skip (j := 7) (by decide) (Mod.refl _ _))
    · intro L w' hun hw hC
      refine step_yes rfl ?_
      have HC := hid_ hC
      have HU := hid_ hun
      obtain ⟨y0, y1, y2, y3, yl⟩ := (show Bk w' (n + 1 + 1 + 1) 24 [.int .i64 0, .int .i64 0] from by have := hC.one; rw [getD_un hun] at this; exact this).two
      clear hun hw hC
      go_simp
      exact still rfl (HC.out.put HU.out)
  · intro L w' hall hC
    have hb := hC.one
    rw [if_pos (hall 8 (by decide))] at hb
    obtain ⟨y0, y1, y2, y3, yl⟩ := hb.two
    have HMW := hid_ (HM.out.trans hC.base (fun i hi e => by have := HNN.out; omega))
    clear hC hall
    go_wp2
    have hfin : rAcross 2 b p q = ⟨p.x + rnd nn d1, b.lo.y⟩ := by
      show (⟨rOther b.lo.y p.y q.y p.x q.x, b.lo.y⟩ : Pt) = _
      unfold rOther
      rw [HD1.out, HD2.out, HC1.out, HNN2.out, if_neg (show ¬ d1 < 0 by have := HNEG.out; omega)]
    exact bodyPost_ret (v := ptV ⟨p.x + rnd nn d1, b.lo.y⟩) (by simp [results, Try.results40, go_sem, y0, y1]) rfl ⟨by rw [hfin], HMW.out⟩
set_option maxRecDepth 100000 in
set_option maxHeartbeats 4000000 in
theorem racross2n (p q : Pt) (b : Bx) (w : World) (hp : PtNear p) (hq : PtNear q) (hb0 : PtNear b.lo) (hb1 : PtNear b.hi) (hne : q.y - p.y ≠ 0) (hneg : q.y - p.y < 0) :
    Calls Try.prog 40 #[ptV p, ptV q, bxV b, .int .i64 2] w (PPost (rAcross 2 b p q) w) := by
  obtain ⟨⟨px1, px2⟩, py1, py2⟩ := hp
  obtain ⟨⟨qx1, qx2⟩, qy1, qy2⟩ := hq
  obtain ⟨⟨lx1, lx2⟩, ly1, ly2⟩ := hb0
  obtain ⟨⟨hx1, hx2⟩, hy1, hy2⟩ := hb1
  obtain ⟨d1, hd1⟩ : ∃ d, q.y - p.y = d := ⟨_, rfl⟩
  obtain ⟨d2, hd2⟩ : ∃ d, q.x - p.x = d := ⟨_, rfl⟩
  obtain ⟨c1, hc1⟩ : ∃ d, b.lo.y - p.y = d := ⟨_, rfl⟩
  have bd1 : -4194304 ≤ d1 ∧ d1 ≤ 4194304 := by omega
  have bd2 : -4194304 ≤ d2 ∧ d2 ≤ 4194304 := by omega
  have bc1 : -4194304 ≤ c1 ∧ c1 ≤ 4194304 := by omega
  obtain ⟨m1, m2⟩ := mul_bd (a := c1) (b := d2) (A := 4194304) (B := 4194304) bc1.1 bc1.2 bd2.1 bd2.2
  obtain ⟨nn, hnn⟩ : ∃ d, c1 * d2 = d := ⟨_, rfl⟩
  rw [hnn] at m1 m2
  rw [hd1] at hneg hne
  have HNEG := hid_ hneg
  have r1 : -100000000000000 ≤ rnd (-nn) (-d1) ∧ rnd (-nn) (-d1) ≤ 100000000000000 := rnd_bd2 (by omega) (by omega) (by omega)
  obtain ⟨r1, r2⟩ := r1
  obtain ⟨bd1, bd1'⟩ := bd1
  obtain ⟨bd2, bd2'⟩ := bd2
  obtain ⟨bc1, bc1'⟩ := bc1
  have v1 : IntKind.i64.wrap (q.y - p.y) = d1 := by rw [hd1]; exact IntWalk.i64_in _ (by omega)
  have v2 : IntKind.i64.wrap (q.x - p.x) = d2 := by rw [hd2]; exact IntWalk.i64_in _ (by omega)
  have v3 : IntKind.i64.wrap (b.lo.y - p.y) = c1 := by rw [hc1]; exact IntWalk.i64_in _ (by omega)
  have v4 : IntKind.i64.wrap (c1 * d2) = nn := by rw [hnn]; exact IntWalk.i64_in _ (by omega)
  have v5 : IntKind.i64.wrap (p.x + rnd (-nn) (-d1)) = p.x + rnd (-nn) (-d1) := IntWalk.i64_in _ (by omega)
  have HD1 := hid_ hd1
  have HD2 := hid_ hd2
  have HC1 := hid_ hc1
  have HNN2 := hid_ hnn
  obtain ⟨b0, b1, b2, b3, hsz, hmod⟩ := four_ w 24 24 26 24 [.int .i64 p.x, .int .i64 p.y] [.int .i64 q.x, .int .i64 q.y] [.int .i64 b.lo.x, .int .i64 b.lo.y, .int .i64 b.hi.x, .int .i64 b.hi.y] [.int .i64 0, .int .i64 0]
  obtain ⟨W, hW⟩ : ∃ W, W = (((w.alloc (.cells #[.int .i64 p.x, .int .i64 p.y] 24)).alloc (.cells #[.int .i64 q.x, .int .i64 q.y] 24)).alloc (.cells #[.int .i64 b.lo.x, .int .i64 b.lo.y, .int .i64 b.hi.x, .int .i64 b.hi.y] 26)).alloc (.cells #[.int .i64 0, .int .i64 0] 24) := ⟨_, rfl⟩
  rw [← hW] at b0 b1 b2 b3 hsz hmod
  obtain ⟨n, hn⟩ : ∃ n, n = w.heap.size := ⟨_, rfl⟩
  rw [← hn] at b0 b1 b2 b3 hsz
  have HP := hid_ b0
  have HO := hid_ b3
  have HM := hid_ hmod
  have HNN := hid_ hn
  clear b0 b1 b2 b3 hmod hd1 hd2 hc1 hnn
  go_enter Try.func40, Try.ntmps40
  go_wp2_with fail
  rw [← hW]
  simp only [← hn]
  clear hW hn
  refine wp_region_stepsL [.pointer (some ⟨n, 0, none⟩), .int .i64 p.x, .int .i64 (-nn), .int .i64 (-d1), .int .i64 (rnd (-nn) (-d1)), .int .i64 (p.x + rnd (-nn) (-d1)), .int .i64 b.lo.y, ptV ⟨p.x + rnd (-nn) (-d1), b.lo.y⟩, undef] (Sto1 W (n + 1 + 1 + 1) 24 (.int .i64 0) (.int .i64 0) (.int .i64 (p.x + rnd (-nn) (-d1))) (.int .i64 b.lo.y) 8) (by kernel_rfl) (by kernel_rfl)
    (by simp only [putAll, Act.put, List.setIfInBounds_toArray, List.set_cons_zero, List.set_cons_succ]; rfl) (⟨(Mod.refl _ _).drew, HO.out⟩) ?_ ?_
  · refine ⟨?_, ?_, ?_, ?_, ?_, ?_, ?_, ?_, ?_, trivial⟩
    · intro L w' hun hw hC
      refine step_yes rfl ?_
      have HC := hid_ hC
      clear hun hw hC
      go_simp
      exact still rfl (HC.out.skip (j := 0) (by decide) (Mod.refl _ _))
    · intro L w' hun hw hC
      refine step_yes rfl ?_
      have HC := hid_ hC
      obtain ⟨x0, x1, -, -, xl⟩ := (HC.out.base.bk HP.out (show n ≠ n + 1 + 1 + 1 by omega)).two
      clear hun hw hC
      go_simp
      exact still rfl (HC.out.skip (j := 1) (by decide) (Mod.refl _ _))
    · intro L w' hun hw hC
      refine step_yes rfl ?_
      have HC := hid_ hC
      clear hun hw hC
      go_simp
      exact still rfl (HC.out.skip (j := 2) (by decide) (Mod.refl _ _))
    · intro L w' hun hw hC
      refine step_yes rfl ?_
      have HC := hid_ hC
      clear hun hw hC
      go_simp
      exact still rfl (HC.out.skip (j := 3) (by decide) (Mod.refl _ _))
    · intro L w' hun hw hC
      refine step_yes rfl ?_
      have HC := hid_ hC
      clear hun hw hC
      go_simp
      refine (rround_any (-nn) (-d1) _ (by omega) (by omega) (by omega) (by omega)).mono ?_
      rintro e w3 ⟨rfl, hm⟩
      exact still rfl (HC.out.skip (j := 4) (by decide) hm)
    · intro L w' hun hw hC
      refine step_yes rfl ?_
      have HC := hid_ hC
      clear hun hw hC
      go_simp
      exact still rfl (HC.out.skip (j := 5) (by decide) (Mod.refl _ _))
    · intro L w' hun hw hC
      refine step_yes rfl ?_
      have HC := hid_ hC
      clear hun hw hC
      go_simp
      exact still rfl (HC.out.skip (j := 6) (by decide) (Mod.refl _ _))
    · intro L w' hun hw hC
      refine step_yes rfl ?_
      have HC := hid_ hC
      clear hun hw hC
      go_simp
      exact still rfl (HC.out.skip (j := 7) (by decide) (Mod.refl _ _))
    · intro L w' hun hw hC
      refine step_yes rfl ?_
      have HC := hid_ hC
      have HU := hid_ hun
      obtain ⟨y0, y1, y2, y3, yl⟩ := (show Bk w' (n + 1 + 1 + 1) 24 [.int .i64 0, .int .i64 0] from by have := hC.one; rw [getD_un hun] at this; exact this).two
      clear hun hw hC
      go_simp
      exact still rfl (HC.out.put HU.out)
  · intro L w' hall hC
    have hb := hC.one
    rw [if_pos (hall 8 (by decide))] at hb
    obtain ⟨y0, y1, y2, y3, yl⟩ := hb.two
    have HMW := hid_ (HM.out.trans hC.base (fun i hi e => by have := HNN.out; omega))
    clear hC hall
    go_wp2
    have hfin : rAcross 2 b p q = ⟨p.x + rnd (-nn) (-d1), b.lo.y⟩ := by
      show (⟨rOther b.lo.y p.y q.y p.x q.x, b.lo.y⟩ : Pt) = _
      unfold rOther
      rw [HD1.out, HD2.out, HC1.out, HNN2.out, if_pos HNEG.out]
    exact bodyPost_ret (v := ptV ⟨p.x + rnd (-nn) (-d1), b.lo.y⟩) (by simp [results, Try.results40, go_sem, y0, y1]) rfl ⟨by rw [hfin], HMW.out⟩
set_option maxRecDepth 100000 in
set_option maxHeartbeats 4000000 in
theorem racross3p (p q : Pt) (b : Bx) (w : World) (hp : PtNear p) (hq : PtNear q) (hb0 : PtNear b.lo) (hb1 : PtNear b.hi) (hne : q.y - p.y ≠ 0) (hneg : ¬ q.y - p.y < 0) :
    Calls Try.prog 40 #[ptV p, ptV q, bxV b, .int .i64 3] w (PPost (rAcross 3 b p q) w) := by
  obtain ⟨⟨px1, px2⟩, py1, py2⟩ := hp
  obtain ⟨⟨qx1, qx2⟩, qy1, qy2⟩ := hq
  obtain ⟨⟨lx1, lx2⟩, ly1, ly2⟩ := hb0
  obtain ⟨⟨hx1, hx2⟩, hy1, hy2⟩ := hb1
  obtain ⟨d1, hd1⟩ : ∃ d, q.y - p.y = d := ⟨_, rfl⟩
  obtain ⟨d2, hd2⟩ : ∃ d, q.x - p.x = d := ⟨_, rfl⟩
  obtain ⟨c1, hc1⟩ : ∃ d, b.hi.y - p.y = d := ⟨_, rfl⟩
  have bd1 : -4194304 ≤ d1 ∧ d1 ≤ 4194304 := by omega
  have bd2 : -4194304 ≤ d2 ∧ d2 ≤ 4194304 := by omega
  have bc1 : -4194304 ≤ c1 ∧ c1 ≤ 4194304 := by omega
  obtain ⟨m1, m2⟩ := mul_bd (a := c1) (b := d2) (A := 4194304) (B := 4194304) bc1.1 bc1.2 bd2.1 bd2.2
  obtain ⟨nn, hnn⟩ : ∃ d, c1 * d2 = d := ⟨_, rfl⟩
  rw [hnn] at m1 m2
  rw [hd1] at hneg hne
  have HNEG := hid_ hneg
  have r1 : -100000000000000 ≤ rnd nn d1 ∧ rnd nn d1 ≤ 100000000000000 := rnd_bd2 (by omega) (by omega) (by omega)
  obtain ⟨r1, r2⟩ := r1
  obtain ⟨bd1, bd1'⟩ := bd1
  obtain ⟨bd2, bd2'⟩ := bd2
  obtain ⟨bc1, bc1'⟩ := bc1
  have v1 : IntKind.i64.wrap (q.y - p.y) = d1 := by rw [hd1]; exact IntWalk.i64_in _ (by omega)
  have v2 : IntKind.i64.wrap (q.x - p.x) = d2 := by rw [hd2]; exact IntWalk.i64_in _ (by omega)
  have v3 : IntKind.i64.wrap (b.hi.y - p.y) = c1 := by rw [hc1]; exact IntWalk.i64_in _ (by omega)
  have v4 : IntKind.i64.wrap (c1 * d2) = nn := by rw [hnn]; exact IntWalk.i64_in _ (by omega)
  have v5 : IntKind.i64.wrap (p.x + rnd nn d1) = p.x + rnd nn d1 := IntWalk.i64_in _ (by omega)
  have HD1 := hid_ hd1
  have HD2 := hid_ hd2
  have HC1 := hid_ hc1
  have HNN2 := hid_ hnn
  obtain ⟨b0, b1, b2, b3, hsz, hmod⟩ := four_ w 24 24 26 24 [.int .i64 p.x, .int .i64 p.y] [.int .i64 q.x, .int .i64 q.y] [.int .i64 b.lo.x, .int .i64 b.lo.y, .int .i64 b.hi.x, .int .i64 b.hi.y] [.int .i64 0, .int .i64 0]
  obtain ⟨W, hW⟩ : ∃ W, W = (((w.alloc (.cells #[.int .i64 p.x, .int .i64 p.y] 24)).alloc (.cells #[.int .i64 q.x, .int .i64 q.y] 24)).alloc (.cells #[.int .i64 b.lo.x, .int .i64 b.lo.y, .int .i64 b.hi.x, .int .i64 b.hi.y] 26)).alloc (.cells #[.int .i64 0, .int .i64 0] 24) := ⟨_, rfl⟩
  rw [← hW] at b0 b1 b2 b3 hsz hmod
  obtain ⟨n, hn⟩ : ∃ n, n = w.heap.size := ⟨_, rfl⟩
  rw [← hn] at b0 b1 b2 b3 hsz
  have HP := hid_ b0
  have HO := hid_ b3
  have HM := hid_ hmod
  have HNN := hid_ hn
  clear b0 b1 b2 b3 hmod hd1 hd2 hc1 hnn
  go_enter Try.func40, Try.ntmps40
  go_wp2_with fail
  rw [← hW]
  simp only [← hn]
  clear hW hn
  refine wp_region_stepsL [.pointer (some ⟨n, 0, none⟩), .int .i64 p.x, .int .i64 nn, .int .i64 d1, .int .i64 (rnd nn d1), .int .i64 (p.x + rnd nn d1), .int .i64 b.hi.y, ptV ⟨p.x + rnd nn d1, b.hi.y⟩, undef] (Sto1 W (n + 1 + 1 + 1) 24 (.int .i64 0) (.int .i64 0) (.int .i64 (p.x + rnd nn d1)) (.int .i64 b.hi.y) 8) (by kernel_rfl) (by kernel_rfl)
    (by simp only [putAll, Act.put, List.setIfInBounds_toArray, List.set_cons_zero, List.set_cons_succ]; rfl) (⟨(Mod.refl _ _).drew, HO.out⟩) ?_ ?_
  · refine ⟨?_, ?_, ?_, ?_, ?_, ?_, ?_, ?_, ?_, trivial⟩
    · intro L w' hun hw hC
      refine step_yes rfl ?_
      have HC := hid_ hC
      clear hun hw hC
      go_simp
      exact still rfl (HC.out.skip (j := 0) (by decide) (Mod.refl _ _))
    · intro L w' hun hw hC
      refine step_yes rfl ?_
      have HC := hid_ hC
      obtain ⟨x0, x1, -, -, xl⟩ := (HC.out.base.bk HP.out (show n ≠ n + 1 + 1 + 1 by omega)).two
      clear hun hw hC
      go_simp
      exact still rfl (HC.out.skip (j := 1) (by decide) (Mod.refl _ _))
    · intro L w' hun hw hC
      refine step_yes rfl ?_
      have HC := hid_ hC
      clear hun hw hC
      go_simp
      exact still rfl (HC.out.skip (j := 2) (by decide) (Mod.refl _ _))
    · intro L w' hun hw hC
      refine step_yes rfl ?_
      have HC := hid_ hC
      clear hun hw hC
      go_simp
      exact still rfl (HC.out.skip (j := 3) (by decide) (Mod.refl _ _))
    · intro L w' hun hw hC
      refine step_yes rfl ?_
      have HC := hid_ hC
      clear hun hw hC
      go_simp
      refine (rround_any nn d1 _ (by omega) (by omega) (by omega) (by omega)).mono ?_
      rintro e w3 ⟨rfl, hm⟩
      exact still rfl (HC.out.skip (j := 4) (by decide) hm)
    · intro L w' hun hw hC
      refine step_yes rfl ?_
      have HC := hid_ hC
      clear hun hw hC
      go_simp
      exact still rfl (HC.out.skip (j := 5) (by decide) (Mod.refl _ _))
    · intro L w' hun hw hC
      refine step_yes rfl ?_
      have HC := hid_ hC
      clear hun hw hC
      go_simp
      exact still rfl (HC.out.skip (j := 6) (by decide) (Mod.refl _ _))
    · intro L w' hun hw hC
      refine step_yes rfl ?_
      have HC := hid_ hC
      clear hun hw hC
      go_simp
      exact still rfl (HC.out.skip (j := 7) (by decide) (Mod.refl _ _))
    · intro L w' hun hw hC
      refine step_yes rfl ?_
      have HC := hid_ hC
      have HU := hid_ hun
      obtain ⟨y0, y1, y2, y3, yl⟩ := (show Bk w' (n + 1 + 1 + 1) 24 [.int .i64 0, .int .i64 0] from by have := hC.one; rw [getD_un hun] at this; exact this).two
      clear hun hw hC
      go_simp
      exact still rfl (HC.out.put HU.out)
  · intro L w' hall hC
    have hb := hC.one
    rw [if_pos (hall 8 (by decide))] at hb
    obtain ⟨y0, y1, y2, y3, yl⟩ := hb.two
    have HMW := hid_ (HM.out.trans hC.base (fun i hi e => by have := HNN.out; omega))
    clear hC hall
    go_wp2
    have hfin : rAcross 3 b p q = ⟨p.x + rnd nn d1, b.hi.y⟩ := by
      show (⟨rOther b.hi.y p.y q.y p.x q.x, b.hi.y⟩ : Pt) = _
      unfold rOther
      rw [HD1.out, HD2.out, HC1.out, HNN2.out, if_neg (show ¬ d1 < 0 by have := HNEG.out; omega)]
    exact bodyPost_ret (v := ptV ⟨p.x + rnd nn d1, b.hi.y⟩) (by simp [results, Try.results40, go_sem, y0, y1]) rfl ⟨by rw [hfin], HMW.out⟩
set_option maxRecDepth 100000 in
set_option maxHeartbeats 4000000 in
theorem racross3n (p q : Pt) (b : Bx) (w : World) (hp : PtNear p) (hq : PtNear q) (hb0 : PtNear b.lo) (hb1 : PtNear b.hi) (hne : q.y - p.y ≠ 0) (hneg : q.y - p.y < 0) :
    Calls Try.prog 40 #[ptV p, ptV q, bxV b, .int .i64 3] w (PPost (rAcross 3 b p q) w) := by
  obtain ⟨⟨px1, px2⟩, py1, py2⟩ := hp
  obtain ⟨⟨qx1, qx2⟩, qy1, qy2⟩ := hq
  obtain ⟨⟨lx1, lx2⟩, ly1, ly2⟩ := hb0
  obtain ⟨⟨hx1, hx2⟩, hy1, hy2⟩ := hb1
  obtain ⟨d1, hd1⟩ : ∃ d, q.y - p.y = d := ⟨_, rfl⟩
  obtain ⟨d2, hd2⟩ : ∃ d, q.x - p.x = d := ⟨_, rfl⟩
  obtain ⟨c1, hc1⟩ : ∃ d, b.hi.y - p.y = d := ⟨_, rfl⟩
  have bd1 : -4194304 ≤ d1 ∧ d1 ≤ 4194304 := by omega
  have bd2 : -4194304 ≤ d2 ∧ d2 ≤ 4194304 := by omega
  have bc1 : -4194304 ≤ c1 ∧ c1 ≤ 4194304 := by omega
  obtain ⟨m1, m2⟩ := mul_bd (a := c1) (b := d2) (A := 4194304) (B := 4194304) bc1.1 bc1.2 bd2.1 bd2.2
  obtain ⟨nn, hnn⟩ : ∃ d, c1 * d2 = d := ⟨_, rfl⟩
  rw [hnn] at m1 m2
  rw [hd1] at hneg hne
  have HNEG := hid_ hneg
  have r1 : -100000000000000 ≤ rnd (-nn) (-d1) ∧ rnd (-nn) (-d1) ≤ 100000000000000 := rnd_bd2 (by omega) (by omega) (by omega)
  obtain ⟨r1, r2⟩ := r1
  obtain ⟨bd1, bd1'⟩ := bd1
  obtain ⟨bd2, bd2'⟩ := bd2
  obtain ⟨bc1, bc1'⟩ := bc1
  have v1 : IntKind.i64.wrap (q.y - p.y) = d1 := by rw [hd1]; exact IntWalk.i64_in _ (by omega)
  have v2 : IntKind.i64.wrap (q.x - p.x) = d2 := by rw [hd2]; exact IntWalk.i64_in _ (by omega)
  have v3 : IntKind.i64.wrap (b.hi.y - p.y) = c1 := by rw [hc1]; exact IntWalk.i64_in _ (by omega)
  have v4 : IntKind.i64.wrap (c1 * d2) = nn := by rw [hnn]; exact IntWalk.i64_in _ (by omega)
  have v5 : IntKind.i64.wrap (p.x + rnd (-nn) (-d1)) = p.x + rnd (-nn) (-d1) := IntWalk.i64_in _ (by omega)
  have HD1 := hid_ hd1
  have HD2 := hid_ hd2
  have HC1 := hid_ hc1
  have HNN2 := hid_ hnn
  obtain ⟨b0, b1, b2, b3, hsz, hmod⟩ := four_ w 24 24 26 24 [.int .i64 p.x, .int .i64 p.y] [.int .i64 q.x, .int .i64 q.y] [.int .i64 b.lo.x, .int .i64 b.lo.y, .int .i64 b.hi.x, .int .i64 b.hi.y] [.int .i64 0, .int .i64 0]
  obtain ⟨W, hW⟩ : ∃ W, W = (((w.alloc (.cells #[.int .i64 p.x, .int .i64 p.y] 24)).alloc (.cells #[.int .i64 q.x, .int .i64 q.y] 24)).alloc (.cells #[.int .i64 b.lo.x, .int .i64 b.lo.y, .int .i64 b.hi.x, .int .i64 b.hi.y] 26)).alloc (.cells #[.int .i64 0, .int .i64 0] 24) := ⟨_, rfl⟩
  rw [← hW] at b0 b1 b2 b3 hsz hmod
  obtain ⟨n, hn⟩ : ∃ n, n = w.heap.size := ⟨_, rfl⟩
  rw [← hn] at b0 b1 b2 b3 hsz
  have HP := hid_ b0
  have HO := hid_ b3
  have HM := hid_ hmod
  have HNN := hid_ hn
  clear b0 b1 b2 b3 hmod hd1 hd2 hc1 hnn
  go_enter Try.func40, Try.ntmps40
  go_wp2_with fail
  rw [← hW]
  simp only [← hn]
  clear hW hn
  refine wp_region_stepsL [.pointer (some ⟨n, 0, none⟩), .int .i64 p.x, .int .i64 (-nn), .int .i64 (-d1), .int .i64 (rnd (-nn) (-d1)), .int .i64 (p.x + rnd (-nn) (-d1)), .int .i64 b.hi.y, ptV ⟨p.x + rnd (-nn) (-d1), b.hi.y⟩, undef] (Sto1 W (n + 1 + 1 + 1) 24 (.int .i64 0) (.int .i64 0) (.int .i64 (p.x + rnd (-nn) (-d1))) (.int .i64 b.hi.y) 8) (by kernel_rfl) (by kernel_rfl)
    (by simp only [putAll, Act.put, List.setIfInBounds_toArray, List.set_cons_zero, List.set_cons_succ]; rfl) (⟨(Mod.refl _ _).drew, HO.out⟩) ?_ ?_
  · refine ⟨?_, ?_, ?_, ?_, ?_, ?_, ?_, ?_, ?_, trivial⟩
    · intro L w' hun hw hC
      refine step_yes rfl ?_
      have HC := hid_ hC
      clear hun hw hC
      go_simp
      exact still rfl (HC.out.skip (j := 0) (by decide) (Mod.refl _ _))
    · intro L w' hun hw hC
      refine step_yes rfl ?_
      have HC := hid_ hC
      obtain ⟨x0, x1, -, -, xl⟩ := (HC.out.base.bk HP.out (show n ≠ n + 1 + 1 + 1 by omega)).two
      clear hun hw hC
      go_simp
      exact still rfl (HC.out.skip (j := 1) (by decide) (Mod.refl _ _))
    · intro L w' hun hw hC
      refine step_yes rfl ?_
      have HC := hid_ hC
      clear hun hw hC
      go_simp
      exact still rfl (HC.out.skip (j := 2) (by decide) (Mod.refl _ _))
    · intro L w' hun hw hC
      refine step_yes rfl ?_
      have HC := hid_ hC
      clear hun hw hC
      go_simp
      exact still rfl (HC.out.skip (j := 3) (by decide) (Mod.refl _ _))
    · intro L w' hun hw hC
      refine step_yes rfl ?_
      have HC := hid_ hC
      clear hun hw hC
      go_simp
      refine (rround_any (-nn) (-d1) _ (by omega) (by omega) (by omega) (by omega)).mono ?_
      rintro e w3 ⟨rfl, hm⟩
      exact still rfl (HC.out.skip (j := 4) (by decide) hm)
    · intro L w' hun hw hC
      refine step_yes rfl ?_
      have HC := hid_ hC
      clear hun hw hC
      go_simp
      exact still rfl (HC.out.skip (j := 5) (by decide) (Mod.refl _ _))
    · intro L w' hun hw hC
      refine step_yes rfl ?_
      have HC := hid_ hC
      clear hun hw hC
      go_simp
      exact still rfl (HC.out.skip (j := 6) (by decide) (Mod.refl _ _))
    · intro L w' hun hw hC
      refine step_yes rfl ?_
      have HC := hid_ hC
      clear hun hw hC
      go_simp
      exact still rfl (HC.out.skip (j := 7) (by decide) (Mod.refl _ _))
    · intro L w' hun hw hC
      refine step_yes rfl ?_
      have HC := hid_ hC
      have HU := hid_ hun
      obtain ⟨y0, y1, y2, y3, yl⟩ := (show Bk w' (n + 1 + 1 + 1) 24 [.int .i64 0, .int .i64 0] from by have := hC.one; rw [getD_un hun] at this; exact this).two
      clear hun hw hC
      go_simp
      exact still rfl (HC.out.put HU.out)
  · intro L w' hall hC
    have hb := hC.one
    rw [if_pos (hall 8 (by decide))] at hb
    obtain ⟨y0, y1, y2, y3, yl⟩ := hb.two
    have HMW := hid_ (HM.out.trans hC.base (fun i hi e => by have := HNN.out; omega))
    clear hC hall
    go_wp2
    have hfin : rAcross 3 b p q = ⟨p.x + rnd (-nn) (-d1), b.hi.y⟩ := by
      show (⟨rOther b.hi.y p.y q.y p.x q.x, b.hi.y⟩ : Pt) = _
      unfold rOther
      rw [HD1.out, HD2.out, HC1.out, HNN2.out, if_pos HNEG.out]
    exact bodyPost_ret (v := ptV ⟨p.x + rnd (-nn) (-d1), b.hi.y⟩) (by simp [results, Try.results40, go_sem, y0, y1]) rfl ⟨by rw [hfin], HMW.out⟩
theorem racross_any {k : Nat} (hk : k < 4) (p q : Pt) (b : Bx) (w : World) (hp : PtNear p) (hq : PtNear q) (hb0 : PtNear b.lo) (hb1 : PtNear b.hi) (h : (keepsF k b p != keepsF k b q) = true) :
    Calls Try.prog 40 #[ptV p, ptV q, bxV b, .int .i64 k] w (PPost (acrossF k b p q) w) := by
  rw [← rAcross_eq hk h]
  have hne := (acrossR_unit h).2
  have key : k = 0 ∨ k = 1 ∨ k = 2 ∨ k = 3 := by omega
  rcases key with rfl | rfl | rfl | rfl
  · have hne' : q.x - p.x ≠ 0 := by
      have : -q.x - -p.x ≠ 0 := hne
      omega
    by_cases hn : q.x - p.x < 0
    · exact racross0n p q b w hp hq hb0 hb1 hne' hn
    · exact racross0p p q b w hp hq hb0 hb1 hne' hn
  · have hne' : q.x - p.x ≠ 0 := by
      have : q.x - p.x ≠ 0 := hne
      omega
    by_cases hn : q.x - p.x < 0
    · exact racross1n p q b w hp hq hb0 hb1 hne' hn
    · exact racross1p p q b w hp hq hb0 hb1 hne' hn
  · have hne' : q.y - p.y ≠ 0 := by
      have : -q.y - -p.y ≠ 0 := hne
      omega
    by_cases hn : q.y - p.y < 0
    · exact racross2n p q b w hp hq hb0 hb1 hne' hn
    · exact racross2p p q b w hp hq hb0 hb1 hne' hn
  · have hne' : q.y - p.y ≠ 0 := by
      have : q.y - p.y ≠ 0 := hne
      omega
    by_cases hn : q.y - p.y < 0
    · exact racross3n p q b w hp hq hb0 hb1 hne' hn
    · exact racross3p p q b w hp hq hb0 hb1 hne' hn
end Go.Proofs.Ytadiajlegajclaa
