/- points, Same, Parts, inside. -/
import Derived.Test.YtadiajlegajclaaA9
import Derived.Test.YtadiajlegajclaaW3
set_option linter.unusedVariables false
set_option linter.unusedSimpArgs false
namespace Go.Proofs.Ytadiajlegajclaa
open Go.RowKit

set_option maxHeartbeats 1000000 in
theorem same_any (w : World) (A A2 : Option Addr) (c c2 n n2 : Nat) (l l2 : List Pt) (hn : l.length = n) (hn2 : l2.length = n2) (hl : PtsAt w w.heap.size A l) (hl2 : PtsAt w w.heap.size A2 l2) (hm : n ≤ 100000000) (hm2 : n2 ≤ 100000000) :
    Calls Try.prog 14 #[.slice A n c, .slice A2 n2 c2] w (BPost (decide (l = l2)) w) := by
  have HL := hid_ hl
  have HL2 := hid_ hl2
  have HN := hid_ hn
  have HN2 := hid_ hn2
  clear hl hl2 hn hn2
  by_cases hlen : n = n2
  · have hq : ((n : Int) != n2) = false := by rw [hlen]; simp
    subst hlen
    have heq := run_pt_eq
    go_enter Try.func14, Try.ntmps14
    go_wp2_with fail
    go_loopw [5] (fun v wr => ∃ k : Nat, k ≤ n ∧ v = .int .i64 k ∧ l.take k = l2.take k ∧ Mod Nothing w wr) (fun v _ => n - (intOf v).toNat)
    case atStart => exact ⟨0, Nat.zero_le _, rfl, rfl, Mod.refl _ _⟩
    case round =>
      obtain ⟨k, hk, rfl, ht, hmd⟩ := hrel
      have HT := hid_ ht
      have HM := hid_ hmd
      clear ht hmd
      by_cases hlt : k < n
      · obtain ⟨p, hp⟩ : ∃ p, l[k]? = some p := ⟨_, List.getElem?_eq_getElem (by rw [HN.out]; exact hlt)⟩
        obtain ⟨q, hq2⟩ : ∃ q, l2[k]? = some q := ⟨_, List.getElem?_eq_getElem (by rw [HN2.out]; exact hlt)⟩
        obtain ⟨b1, o1, hA1, hb1, p0, p1⟩ := (HL.out.mod HM.out (Nat.le_refl _) (fun _ _ => id)) k p hp
        obtain ⟨b2, o2, hA2, hb2, q0, q1⟩ := (HL2.out.mod HM.out (Nat.le_refl _) (fun _ _ => id)) k q hq2
        have HP := hid_ hp
        have HQ := hid_ hq2
        have v1 : (0 : Int) ≤ (k : Int) := by omega
        have v2 : (k : Int) < n := by omega
        subst hA1
        subst hA2
        clear hp hq2
        go_wp2_with fail
        go_quiet (fail)
        clear p0 p1 q0 q1
        cases hpq : ptEqB p q
        · have hne : p ≠ q := fun e => by rw [ptEqB_iff.2 e] at hpq; cases hpq
          go_wp2
          go_returns
          refine ⟨ret_bool ?_, HM.out.drewN _⟩
          refine (decide_eq_false fun e => hne ?_).symm
          have h1 := HP.out
          rw [e, HQ.out] at h1
          injection h1 with h1
          exact h1.symm
        · have he : p = q := ptEqB_iff.1 hpq
          subst he
          go_wp2
          go_roundw
          case rel => exact ⟨k + 1, by omega, by go_num, by rw [List.take_add_one, List.take_add_one, HP.out, HQ.out, HT.out], HM.out.drewN _⟩
          case measure => simp [intOf]; omega
      · have hkn : k = n := by omega
        subst hkn
        have he : l = l2 := by
          have h1 := HT.out
          rw [List.take_of_length_le (by rw [HN.out]; exact Nat.le_refl _), List.take_of_length_le (by rw [HN2.out]; exact Nat.le_refl _)] at h1
          exact h1
        have HEQ := hid_ he
        clear he
        go_wp2
        go_returns
        exact ⟨ret_bool (decide_eq_true HEQ.out).symm, HM.out⟩
  · have hq : ((n : Int) != n2) = true := by rw [bne_iff_ne]; omega
    have hne : l ≠ l2 := fun e => hlen (by rw [← HN.out, ← HN2.out, e])
    have HNE := hid_ (decide_eq_false hne)
    clear hlen hne
    go_enter Try.func14, Try.ntmps14
    go_wp2
    go_returns
    exact ⟨ret_bool HNE.out.symm, Mod.refl _ _⟩

/-- A slice of slices reads as these lists of points. -/
def RdParts (w : World) (A : Option Addr) (ls : List (List Pt)) : Prop :=
  ∀ i l, ls[i]? = some l → ∃ b off A' c', A = some ⟨b, off, none⟩ ∧ b < w.heap.size ∧ w.cell? ⟨b, off + i, none⟩ = some (.slice A' l.length c') ∧ PtsAt w w.heap.size A' l
theorem RdParts.mod {w w' : World} {A : Option Addr} {ls : List (List Pt)} (h : RdParts w A ls) (hm : Mod Nothing w w') : RdParts w' A ls := by
  intro i l hi
  obtain ⟨b, off, A', c', hA, hb, hc, hp⟩ := h i l hi
  exact ⟨b, off, A', c', hA, Nat.lt_of_lt_of_le hb hm.size, (hm.cell (p := ⟨b, off + i, none⟩) hb id).trans hc, (hp.mod hm (Nat.le_refl _) (fun _ _ => id)).mono hm.size⟩
theorem PartsAt.rd {w : World} {S : Nat → Prop} {v : Value} {ls : List (List Pt)} (h : PartsAt w S v ls) : ∃ A c, v = .slice A ls.length c ∧ RdParts w A ls := by
  obtain ⟨vs, ho, hl, hb, hp⟩ := h
  rcases ho.2 with ⟨rfl, hn⟩ | ⟨g, cap, cur, rfl, _, hh, hnc, _, hcs, ht⟩
  · exact ⟨none, 0, by rw [← hl, hn], fun i l hi => by rw [List.eq_nil_of_length_eq_zero (by omega : ls.length = 0)] at hi; simp at hi⟩
  · refine ⟨_, cap, by rw [hl], fun i l hi => ?_⟩
    have hil : i < ls.length := (List.getElem?_eq_some_iff.1 hi).1
    have hu : vs[i]? = some vs[i] := List.getElem?_eq_getElem (by omega)
    obtain ⟨h1, _, _⟩ := hp i _ l hu hi
    obtain ⟨A', c', e, hp', _⟩ := h1.form
    refine ⟨g, 0, A', c', rfl, lt_of_block hh, ?_, hp'⟩
    rw [Nat.zero_add, cell_of_row w g i cur 22 (0, 0) hh, ← e, ← hu, ← ht, List.getElem?_take_of_lt (by omega)]
    simp

set_option maxHeartbeats 1000000 in
theorem parts_any (w : World) (A A2 : Option Addr) (c c2 n n2 : Nat) (l l2 : List (List Pt)) (hn : l.length = n) (hn2 : l2.length = n2) (hl : RdParts w A l) (hl2 : RdParts w A2 l2) (hm : n ≤ 100000000) (hm2 : n2 ≤ 100000000)
    (hb1 : ∀ x ∈ l, x.length ≤ 100000000) (hb2 : ∀ x ∈ l2, x.length ≤ 100000000) :
    Calls Try.prog 11 #[.slice A n c, .slice A2 n2 c2] w (BPost (decide (l = l2)) w) := by
  have HL := hid_ hl
  have HL2 := hid_ hl2
  have HN := hid_ hn
  have HN2 := hid_ hn2
  have HB1 := hid_ hb1
  have HB2 := hid_ hb2
  clear hl hl2 hn hn2 hb1 hb2
  by_cases hlen : n = n2
  · have hq : ((n : Int) != n2) = false := by rw [hlen]; simp
    subst hlen
    go_enter Try.func11, Try.ntmps11
    go_wp2_with fail
    go_loopw [5] (fun v wr => ∃ k : Nat, k ≤ n ∧ v = .int .i64 k ∧ l.take k = l2.take k ∧ Mod Nothing w wr) (fun v _ => n - (intOf v).toNat)
    case atStart => exact ⟨0, Nat.zero_le _, rfl, rfl, Mod.refl _ _⟩
    case round =>
      obtain ⟨k, hk, rfl, ht, hmd⟩ := hrel
      have HT := hid_ ht
      have HM := hid_ hmd
      clear ht hmd
      by_cases hlt : k < n
      · obtain ⟨p, hp⟩ : ∃ p, l[k]? = some p := ⟨_, List.getElem?_eq_getElem (by rw [HN.out]; exact hlt)⟩
        obtain ⟨q, hq2⟩ : ∃ q, l2[k]? = some q := ⟨_, List.getElem?_eq_getElem (by rw [HN2.out]; exact hlt)⟩
        obtain ⟨b1, o1, A1, c1, hA1, hb1, p0, hpp⟩ := (HL.out.mod HM.out) k p hp
        obtain ⟨b2, o2, A3, c3, hA2, hb2, q0, hqq⟩ := (HL2.out.mod HM.out) k q hq2
        have HP := hid_ hp
        have HQ := hid_ hq2
        have CS := hid_ (fun w' (hm' : Mod Nothing wr w') => same_any w' A1 A3 c1 c3 p.length q.length p q rfl rfl ((hpp.mod hm' (Nat.le_refl _) (fun _ _ => id)).mono hm'.size) ((hqq.mod hm' (Nat.le_refl _) (fun _ _ => id)).mono hm'.size) (HB1.out p (List.mem_of_getElem? hp)) (HB2.out q (List.mem_of_getElem? hq2)))
        have v1 : (0 : Int) ≤ (k : Int) := by omega
        have v2 : (k : Int) < n := by omega
        subst hA1
        subst hA2
        clear hp hq2 hpp hqq
        go_wp2_with fail
        refine wp_region_stepsC [.slice (some ⟨b1, o1, none⟩) n c, .int .i64 k, .pointer (some ⟨b1, o1 + k, none⟩), .slice A1 p.length c1, .slice (some ⟨b2, o2, none⟩) n c2, .int .i64 k, .pointer (some ⟨b2, o2 + k, none⟩), .slice A3 q.length c3, .bool (decide (p = q)), .bool (!decide (p = q))] (Mod Nothing wr) (by kernel_rfl) (by kernel_rfl)
          (by simp only [putAll, Act.put, List.setIfInBounds_toArray, List.set_cons_zero, List.set_cons_succ]; rfl) ((Mod.refl _ _).drew) ?_ ?_
        · refine ⟨?_, ?_, ?_, ?_, ?_, ?_, ?_, ?_, ?_, ?_, trivial⟩
          · intro L w' hun hw hC
            refine step_yes rfl ?_
            have HC := hid_ hC
            clear hun hw hC
            go_simp
            exact still rfl HC.out
          · intro L w' hun hw hC
            refine step_yes rfl ?_
            have HC := hid_ hC
            clear hun hw hC
            go_simp
            exact still rfl HC.out
          · intro L w' hun hw hC
            refine step_yes rfl ?_
            have HC := hid_ hC
            clear hun hw hC
            go_simp
            exact still rfl HC.out
          · intro L w' hun hw hC
            refine step_yes rfl ?_
            have HC := hid_ hC
            have c0 := (HC.out.cell (p := ⟨b1, o1 + k, none⟩) hb1 id).trans p0
            clear hun hw hC
            go_simp
            exact still rfl HC.out
          · intro L w' hun hw hC
            refine step_yes rfl ?_
            have HC := hid_ hC
            clear hun hw hC
            go_simp
            exact still rfl HC.out
          · intro L w' hun hw hC
            refine step_yes rfl ?_
            have HC := hid_ hC
            clear hun hw hC
            go_simp
            exact still rfl HC.out
          · intro L w' hun hw hC
            refine step_yes rfl ?_
            have HC := hid_ hC
            clear hun hw hC
            go_simp
            exact still rfl HC.out
          · intro L w' hun hw hC
            refine step_yes rfl ?_
            have HC := hid_ hC
            have c0 := (HC.out.cell (p := ⟨b2, o2 + k, none⟩) hb2 id).trans q0
            clear hun hw hC
            go_simp
            exact still rfl HC.out
          · intro L w' hun hw hC
            refine step_yes rfl ?_
            have HC := hid_ hC
            clear hun hw hC
            go_simp
            refine (CS.out _ HC.out).mono ?_
            rintro e w3 ⟨rfl, hm⟩
            exact still rfl (HC.out.trans hm (fun _ _ h => h))
          · intro L w' hun hw hC
            refine step_yes rfl ?_
            have HC := hid_ hC
            clear hun hw hC
            go_simp
            exact still rfl HC.out
        · intro w2 hm2
          have HM2 := hid_ (HM.out.trans hm2 (fun _ _ h => h))
          clear hm2 p0 q0
          by_cases hpq : p = q
          · have e : decide (p = q) = true := decide_eq_true hpq
            have HPQ := hid_ hpq
            rw [e]
            clear e hpq
            go_wp2
            go_roundw
            case rel => exact ⟨k + 1, by omega, by go_num, by rw [List.take_add_one, List.take_add_one, HP.out, HQ.out, HT.out, HPQ.out], HM2.out⟩
            case measure => simp [intOf]; omega
          · have e : decide (p = q) = false := decide_eq_false hpq
            have HPQ := hid_ hpq
            rw [e]
            clear e hpq
            go_wp2
            go_returns
            refine ⟨ret_bool ?_, HM2.out⟩
            refine (decide_eq_false fun e => HPQ.out ?_).symm
            have h1 := HP.out
            rw [e, HQ.out] at h1
            injection h1 with h1
            exact h1.symm
      · have hkn : k = n := by omega
        subst hkn
        have he : l = l2 := by
          have h1 := HT.out
          rw [List.take_of_length_le (by rw [HN.out]; exact Nat.le_refl _), List.take_of_length_le (by rw [HN2.out]; exact Nat.le_refl _)] at h1
          exact h1
        have HEQ := hid_ he
        clear he
        go_wp2
        go_returns
        exact ⟨ret_bool (decide_eq_true HEQ.out).symm, HM.out⟩
  · have hq : ((n : Int) != n2) = true := by rw [bne_iff_ne]; omega
    have hne : l ≠ l2 := fun e => hlen (by rw [← HN.out, ← HN2.out, e])
    have HNE := hid_ (decide_eq_false hne)
    clear hlen hne
    go_enter Try.func11, Try.ntmps11
    go_wp2
    go_returns
    exact ⟨ret_bool HNE.out.symm, Mod.refl _ _⟩

/-- All points are in the box, and neighbours are different. -/
def Inside (l : List Pt) (b : Bx) : Prop := ∀ k p, l[k]? = some p → inB p b = true ∧ (0 < k → l[k - 1]? ≠ some p)

set_option maxRecDepth 100000 in
set_option maxHeartbeats 4000000 in
theorem inside_any (w : World) (A : Option Addr) (c n : Nat) (l : List Pt) (b : Bx) (hn : l.length = n) (hl : PtsAt w w.heap.size A l) (hm : n ≤ 100000000) (hin : Inside l b) :
    Calls Try.prog 17 #[.slice A n c, bxV b] w (BPost true w) := by
  have HL := hid_ hl
  have HN := hid_ hn
  have HI := hid_ hin
  have heq := run_pt_eq
  clear hl hn hin
  go_enter Try.func17, Try.ntmps17
  go_wp2_with fail
  have HB := hid_ (Bk.new w 26 [.int .i64 b.lo.x, .int .i64 b.lo.y, .int .i64 b.hi.x, .int .i64 b.hi.y])
  have HM0 := hid_ ((Mod.refl Nothing w).alloc (.cells #[.int .i64 b.lo.x, .int .i64 b.lo.y, .int .i64 b.hi.x, .int .i64 b.hi.y] 26))
  go_loopw [5] (fun v wr => ∃ k : Nat, k ≤ n ∧ v = .int .i64 k ∧ Mod Nothing (w.alloc (.cells #[.int .i64 b.lo.x, .int .i64 b.lo.y, .int .i64 b.hi.x, .int .i64 b.hi.y] 26)) wr) (fun v _ => n - (intOf v).toNat)
  case atStart => exact ⟨0, Nat.zero_le _, rfl, Mod.refl _ _⟩
  case round =>
    obtain ⟨k, hk, rfl, hmd⟩ := hrel
    have HM := hid_ hmd
    have HMW := hid_ (HM0.out.trans hmd (fun _ _ h => h))
    have HB2 := hid_ (hmd.bk HB.out id)
    clear hmd
    by_cases hlt : k < n
    · obtain ⟨p, hp⟩ : ∃ p, l[k]? = some p := ⟨_, List.getElem?_eq_getElem (by rw [HN.out]; exact hlt)⟩
      obtain ⟨bb, off, hA, hbb0, p0, p1⟩ := (HL.out.mod HMW.out (Nat.le_refl _) (fun _ _ => id)) k p hp
      obtain ⟨hin, hdiff⟩ := HI.out k p hp
      have hbb : bb < wr.heap.size := Nat.lt_of_lt_of_le hbb0 HMW.out.size
      have CIN := hid_ (fun w' => rin_any p b w')
      rw [hin] at CIN
      have HDF := hid_ hdiff
      have v1 : (0 : Int) ≤ (k : Int) := by omega
      have v2 : (k : Int) < n := by omega
      have HP := hid_ hp
      have HA := hid_ hA
      clear hbb0 hin hdiff hp
      by_cases hk0 : 0 < k
      · obtain ⟨q, hq⟩ : ∃ q, l[k - 1]? = some q := ⟨_, List.getElem?_eq_getElem (by rw [HN.out]; omega)⟩
        obtain ⟨bb', off', hA', hbb', q0, q1⟩ := (HL.out.mod HMW.out (Nat.le_refl _) (fun _ _ => id)) (k - 1) q hq
        rw [hA] at hA'
        simp only [Option.some.injEq, Addr.mk.injEq] at hA'
        obtain ⟨rfl, rfl, -⟩ := hA'
        subst hA
        have hpq : ptEqB p q = false := by
          cases e : ptEqB p q with
          | false => rfl
          | true => exact absurd (by rw [hq, ptEqB_iff.1 e]) (HDF.out hk0)
        have HPQ := hid_ hpq
        have v3 : IntKind.i64.wrap ((k : Int) - 1) = (k : Int) - 1 := IntWalk.i64_in _ (by omega)
        have v4 : ((k : Int) - 1).toNat = k - 1 := by omega
        have v5 : (0 : Int) ≤ (k : Int) - 1 := by omega
        have v6 : (k : Int) - 1 < n := by omega
        have v7 : (1 : Int) ≤ (k : Int) := by omega
        have hkd : decide (0 < (k : Int)) = true := decide_eq_true (by omega)
        clear hq hbb' hpq
        go_wp2_with fail
        refine wp_region_stepsC [.slice (some ⟨bb, off, none⟩) n c, .int .i64 k, .pointer (some ⟨bb, off + k * 2, none⟩), ptV p, bxV b, .bool true, .bool false, .bool false, .int .i64 k, .bool true, .bool true, .slice (some ⟨bb, off, none⟩) n c, .int .i64 k, .pointer (some ⟨bb, off + k * 2, none⟩), ptV p, .slice (some ⟨bb, off, none⟩) n c, .int .i64 k, .int .i64 ((k : Int) - 1), .pointer (some ⟨bb, off + (k - 1) * 2, none⟩), ptV q, .bool (ptEqB p q), .bool (ptEqB p q), .bool (ptEqB p q)] (Mod Nothing wr) (by kernel_rfl) (by kernel_rfl)
          (by simp only [putAll, Act.put, List.setIfInBounds_toArray, List.set_cons_zero, List.set_cons_succ]; rfl) ((Mod.refl _ _).drew) ?_ ?_
        · refine ⟨?_, ?_, ?_, ?_, ?_, ?_, ?_, ?_, ?_, ?_, ?_, ?_, ?_, ?_, ?_, ?_, ?_, ?_, ?_, ?_, ?_, ?_, ?_, trivial⟩
          · intro L w' hun hw hC
            refine step_yes rfl ?_
            have HC := hid_ hC
            clear hun hw hC
            go_simp
            exact still rfl HC.out
          · intro L w' hun hw hC
            refine step_yes rfl ?_
            have HC := hid_ hC
            clear hun hw hC
            go_simp
            exact still rfl HC.out
          · intro L w' hun hw hC
            refine step_yes rfl ?_
            have HC := hid_ hC
            clear hun hw hC
            go_simp
            exact still rfl HC.out
          · intro L w' hun hw hC
            refine step_yes rfl ?_
            have HC := hid_ hC
            have c0 := (HC.out.cell (p := ⟨bb, off + k * 2, none⟩) hbb id).trans p0
            have c1 := (HC.out.cell (p := ⟨bb, off + k * 2 + 1, none⟩) hbb id).trans p1
            clear hun hw hC
            go_simp
            exact still rfl HC.out
          · intro L w' hun hw hC
            refine step_yes rfl ?_
            have HC := hid_ hC
            obtain ⟨b0, b1, b2, b3, -, -, -, -, hbl⟩ := (HC.out.bk HB2.out id).four
            clear hun hw hC
            go_simp
            exact still rfl HC.out
          · intro L w' hun hw hC
            refine step_yes rfl ?_
            have HC := hid_ hC
            clear hun hw hC
            go_simp
            refine (CIN.out _).mono ?_
            rintro e w3 ⟨rfl, hm⟩
            exact still rfl (HC.out.trans hm (fun _ _ h => h))
          · intro L w' hun hw hC
            refine step_yes rfl ?_
            have HC := hid_ hC
            clear hun hw hC
            go_simp
            exact still rfl HC.out
          · intro L w' hun hw hC
            refine step_yes rfl ?_
            have HC := hid_ hC
            clear hun hw hC
            go_simp
            exact still rfl HC.out
          · intro L w' hun hw hC
            refine step_yes rfl ?_
            have HC := hid_ hC
            clear hun hw hC
            go_simp
            exact still rfl HC.out
          · intro L w' hun hw hC
            refine step_yes rfl ?_
            have HC := hid_ hC
            clear hun hw hC
            go_simp
            exact still rfl HC.out
          · intro L w' hun hw hC
            refine step_yes rfl ?_
            have HC := hid_ hC
            clear hun hw hC
            go_simp
            exact still rfl HC.out
          · intro L w' hun hw hC
            refine step_yes rfl ?_
            have HC := hid_ hC
            clear hun hw hC
            go_simp
            exact still rfl HC.out
          · intro L w' hun hw hC
            refine step_yes rfl ?_
            have HC := hid_ hC
            clear hun hw hC
            go_simp
            exact still rfl HC.out
          · intro L w' hun hw hC
            refine step_yes rfl ?_
            have HC := hid_ hC
            clear hun hw hC
            go_simp
            exact still rfl HC.out
          · intro L w' hun hw hC
            refine step_yes rfl ?_
            have HC := hid_ hC
            have c0 := (HC.out.cell (p := ⟨bb, off + k * 2, none⟩) hbb id).trans p0
            have c1 := (HC.out.cell (p := ⟨bb, off + k * 2 + 1, none⟩) hbb id).trans p1
            clear hun hw hC
            go_simp
            exact still rfl HC.out
          · intro L w' hun hw hC
            refine step_yes rfl ?_
            have HC := hid_ hC
            clear hun hw hC
            go_simp
            exact still rfl HC.out
          · intro L w' hun hw hC
            refine step_yes rfl ?_
            have HC := hid_ hC
            clear hun hw hC
            go_simp
            exact still rfl HC.out
          · intro L w' hun hw hC
            refine step_yes rfl ?_
            have HC := hid_ hC
            clear hun hw hC
            go_simp
            exact still rfl HC.out
          · intro L w' hun hw hC
            refine step_yes rfl ?_
            have HC := hid_ hC
            clear hun hw hC
            go_simp
            exact still rfl HC.out
          · intro L w' hun hw hC
            refine step_yes rfl ?_
            have HC := hid_ hC
            have c0 := (HC.out.cell (p := ⟨bb, off + (k - 1) * 2, none⟩) hbb id).trans q0
            have c1 := (HC.out.cell (p := ⟨bb, off + (k - 1) * 2 + 1, none⟩) hbb id).trans q1
            clear hun hw hC
            go_simp
            exact still rfl HC.out
          · intro L w' hun hw hC
            refine step_yes rfl ?_
            have HC := hid_ hC
            clear hun hw hC
            go_simp
            exact still rfl HC.out
          · intro L w' hun hw hC
            refine step_yes rfl ?_
            have HC := hid_ hC
            clear hun hw hC
            go_simp
            exact still rfl HC.out
          · intro L w' hun hw hC
            refine step_yes rfl ?_
            have HC := hid_ hC
            clear hun hw hC
            go_simp
            exact still rfl HC.out
        · intro w2 hm2
          have HM2 := hid_ (HM.out.trans hm2 (fun _ _ h => h))
          rw [HPQ.out]
          clear hm2 p0 p1 q0 q1 v3 v4 v5 v6 v7
          go_wp2
          go_roundw
          case rel => exact ⟨k + 1, by omega, by go_num, HM2.out⟩
          case measure => simp [intOf]; omega
      · subst hA
        have hkd : decide (0 < (k : Int)) = false := decide_eq_false (by omega)
        go_wp2_with fail
        refine wp_region_stepsC [.slice (some ⟨bb, off, none⟩) n c, .int .i64 k, .pointer (some ⟨bb, off + k * 2, none⟩), ptV p, bxV b, .bool true, .bool false, .bool false, .int .i64 k, .bool false, .bool false, undef, undef, undef, undef, undef, undef, undef, undef, undef, undef, .bool false, .bool false] (Mod Nothing wr) (by kernel_rfl) (by kernel_rfl)
          (by simp only [putAll, Act.put, List.setIfInBounds_toArray, List.set_cons_zero, List.set_cons_succ]; rfl) ((Mod.refl _ _).drew) ?_ ?_
        · refine ⟨?_, ?_, ?_, ?_, ?_, ?_, ?_, ?_, ?_, ?_, ?_, ?_, ?_, ?_, ?_, ?_, ?_, ?_, ?_, ?_, ?_, ?_, ?_, trivial⟩
          · intro L w' hun hw hC
            refine step_yes rfl ?_
            have HC := hid_ hC
            clear hun hw hC
            go_simp
            exact still rfl HC.out
          · intro L w' hun hw hC
            refine step_yes rfl ?_
            have HC := hid_ hC
            clear hun hw hC
            go_simp
            exact still rfl HC.out
          · intro L w' hun hw hC
            refine step_yes rfl ?_
            have HC := hid_ hC
            clear hun hw hC
            go_simp
            exact still rfl HC.out
          · intro L w' hun hw hC
            refine step_yes rfl ?_
            have HC := hid_ hC
            have c0 := (HC.out.cell (p := ⟨bb, off + k * 2, none⟩) hbb id).trans p0
            have c1 := (HC.out.cell (p := ⟨bb, off + k * 2 + 1, none⟩) hbb id).trans p1
            clear hun hw hC
            go_simp
            exact still rfl HC.out
          · intro L w' hun hw hC
            refine step_yes rfl ?_
            have HC := hid_ hC
            obtain ⟨b0, b1, b2, b3, -, -, -, -, hbl⟩ := (HC.out.bk HB2.out id).four
            clear hun hw hC
            go_simp
            exact still rfl HC.out
          · intro L w' hun hw hC
            refine step_yes rfl ?_
            have HC := hid_ hC
            clear hun hw hC
            go_simp
            refine (CIN.out _).mono ?_
            rintro e w3 ⟨rfl, hm⟩
            exact still rfl (HC.out.trans hm (fun _ _ h => h))
          · intro L w' hun hw hC
            refine step_yes rfl ?_
            have HC := hid_ hC
            clear hun hw hC
            go_simp
            exact still rfl HC.out
          · intro L w' hun hw hC
            refine step_yes rfl ?_
            have HC := hid_ hC
            clear hun hw hC
            go_simp
            exact still rfl HC.out
          · intro L w' hun hw hC
            refine step_yes rfl ?_
            have HC := hid_ hC
            clear hun hw hC
            go_simp
            exact still rfl HC.out
          · intro L w' hun hw hC
            refine step_yes rfl ?_
            have HC := hid_ hC
            clear hun hw hC
            go_simp
            exact still rfl HC.out
          · intro L w' hun hw hC
            refine step_yes rfl ?_
            have HC := hid_ hC
            clear hun hw hC
            go_simp
            exact still rfl HC.out
          · intro L w' hun hw hC
            exact step_no rfl (still rfl hC)
          · intro L w' hun hw hC
            exact step_no rfl (still rfl hC)
          · intro L w' hun hw hC
            exact step_no rfl (still rfl hC)
          · intro L w' hun hw hC
            exact step_no rfl (still rfl hC)
          · intro L w' hun hw hC
            exact step_no rfl (still rfl hC)
          · intro L w' hun hw hC
            exact step_no rfl (still rfl hC)
          · intro L w' hun hw hC
            exact step_no rfl (still rfl hC)
          · intro L w' hun hw hC
            exact step_no rfl (still rfl hC)
          · intro L w' hun hw hC
            exact step_no rfl (still rfl hC)
          · intro L w' hun hw hC
            exact step_no rfl (still rfl hC)
          · intro L w' hun hw hC
            refine step_yes rfl ?_
            have HC := hid_ hC
            clear hun hw hC
            go_simp
            exact still rfl HC.out
          · intro L w' hun hw hC
            refine step_yes rfl ?_
            have HC := hid_ hC
            clear hun hw hC
            go_simp
            exact still rfl HC.out
        · intro w2 hm2
          have HM2 := hid_ (HM.out.trans hm2 (fun _ _ h => h))
          clear hm2 p0 p1
          go_wp2
          go_roundw
          case rel => exact ⟨k + 1, by omega, by go_num, HM2.out⟩
          case measure => simp [intOf]; omega
    · have hkn : k = n := by omega
      subst hkn
      go_wp2
      go_returns
      exact ⟨rfl, HMW.out⟩
end Go.Proofs.Ytadiajlegajclaa
