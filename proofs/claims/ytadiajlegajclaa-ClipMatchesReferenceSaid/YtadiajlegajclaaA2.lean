/- proper: whether a box is proper and all points are near. -/
import Derived.Test.YtadiajlegajclaaA1
set_option linter.unusedVariables false
set_option linter.unusedSimpArgs false
namespace Go.Proofs.Ytadiajlegajclaa
open Go.RowKit

/-- Coordinates that an int holds. -/
def PtWf (p : Pt) : Prop := (-9223372036854775808 ≤ p.x ∧ p.x ≤ 9223372036854775807) ∧ -9223372036854775808 ≤ p.y ∧ p.y ≤ 9223372036854775807
def BxWf (b : Bx) : Prop := PtWf b.lo ∧ PtWf b.hi

theorem near_wf (p : Pt) (w : World) (h : PtWf p) : Calls Try.prog 44 #[ptV p] w (BPost (nearB p) w) := near_any p w h.1.1 h.1.2 h.2.1 h.2.2

theorem far_any (p : Pt) (w : World) (h : PtWf p) : Calls Try.prog 46 #[ptV p] w (BPost (!nearB p) w) := by
  go_enter Try.func46, Try.ntmps46
  go_wp2_with fail
  refine (near_wf p _ h).mono ?_
  rintro e w1 ⟨rfl, hm⟩
  have HM := hid_ hm
  clear hm
  go_wp2
  go_returns
  exact ⟨rfl, ((Mod.refl _ _).alloc _).trans HM.out (fun _ _ h => h)⟩

def SomeIdx (b : Bool) (w : World) (e : Ending) (w' : World) : Prop := ∃ r : Int, e = .returned (.int .i64 r) ∧ decide (0 ≤ r) = b ∧ Mod Nothing w w'

set_option maxHeartbeats 400000 in
theorem index_any (w : World) (A : Option Addr) (c n : Nat) (l : List Pt) (hn : l.length = n) (hl : PtsAt w w.heap.size A l) (hm : n ≤ 9223372036854775807) (hwf : ∀ p ∈ l, PtWf p) :
    Calls Try.prog 54 #[.slice A n c, .func (.func 46) #[] #[]] w (SomeIdx (!l.all nearB) w) := by
  have HL := hid_ hl
  have HN := hid_ hn
  have HW := hid_ hwf
  clear hl hn hwf
  go_enter Try.func54, Try.ntmps54
  go_wp2
  go_loopw [8] (fun v wr => ∃ k : Nat, k ≤ n ∧ v = .int .i64 k ∧ (l.take k).all nearB = true ∧ Mod Nothing w wr) (fun v _ => n - (intOf v).toNat)
  case atStart => exact ⟨0, Nat.zero_le _, rfl, rfl, Mod.refl _ _⟩
  case round =>
    obtain ⟨k, hk, rfl, hall, hmod⟩ := hrel
    have HA := hid_ hall
    have HM := hid_ hmod
    clear hall hmod
    by_cases hlt : k < n
    · obtain ⟨p, hp⟩ : ∃ p, l[k]? = some p := ⟨_, List.getElem?_eq_getElem (by rw [HN.out]; exact hlt)⟩
      obtain ⟨b, off, hA, hb, c0, c1⟩ := (HL.out.mod HM.out (Nat.le_refl _) (fun _ _ => id)) k p hp
      have HP := hid_ hp
      subst hA
      have hpw := HW.out p (List.mem_of_getElem? hp)
      clear hp
      go_wp2_with fail
      refine (far_any p _ hpw).mono ?_
      rintro e w1 ⟨rfl, hm1⟩
      have HM1 := hid_ (HM.out.trans hm1 (fun _ _ h => h))
      clear hm1 c0 c1
      cases hnp : nearB p
      · go_wp2
        go_returns
        refine ⟨(k : Int), rfl, ?_, HM1.out⟩
        have e : l.all nearB = false := by
          rw [Bool.eq_false_iff]
          intro ht
          have := List.all_eq_true.1 ht p (List.mem_of_getElem? HP.out)
          rw [hnp] at this
          cases this
        rw [e]
        simp
      · go_wp2
        go_roundw
        case rel => exact ⟨k + 1, by omega, by go_num, by rw [List.take_add_one, HP.out, List.all_append, HA.out]; simp [hnp], HM1.out⟩
        case measure => simp [intOf]; omega
    · have hkn : k = n := by omega
      subst hkn
      have ht : l.take k = l := List.take_of_length_le (by rw [HN.out]; exact Nat.le_refl _)
      rw [ht] at HA
      clear ht
      go_wp2
      go_returns
      refine ⟨-1, rfl, ?_, HM.out⟩
      rw [HA.out]
      rfl

theorem contains_any (w : World) (A : Option Addr) (c n : Nat) (l : List Pt) (hn : l.length = n) (hl : PtsAt w w.heap.size A l) (hm : n ≤ 9223372036854775807) (hwf : ∀ p ∈ l, PtWf p) :
    Calls Try.prog 45 #[.slice A n c, .func (.func 46) #[] #[]] w (BPost (!l.all nearB) w) := by
  have HC := hid_ (index_any w A c n l hn hl hm hwf)
  clear hn hl hwf
  go_enter Try.func45, Try.ntmps45
  go_wp2_with fail
  refine HC.out.mono ?_
  rintro e w1 ⟨r, rfl, hr, hm⟩
  have HR := hid_ hr
  have HM := hid_ hm
  clear hr hm
  go_wp2
  go_returns
  rw [← HR.out]
  exact ⟨rfl, HM.out⟩

set_option maxHeartbeats 1000000 in
theorem proper_any (w : World) (A : Option Addr) (c n : Nat) (l : List Pt) (b : Bx) (hn : l.length = n) (hl : PtsAt w w.heap.size A l) (hm : n ≤ 9223372036854775807) (hwf : ∀ p ∈ l, PtWf p) (hb : BxWf b) :
    Calls Try.prog 26 #[.slice A n c, bxV b] w (BPost (propB l b) w) := by
  have HC := hid_ (fun w' (hm' : Mod Nothing w w') => contains_any w' A c n l hn ((hl.mod hm' (Nat.le_refl _) (fun _ _ => id)).mono hm'.size) hm hwf)
  clear hn hl hwf
  go_enter Try.func26, Try.ntmps26
  go_wp2_with fail
  refine (near_wf b.lo _ hb.1).mono ?_
  rintro e w1 ⟨rfl, hm1⟩
  obtain ⟨b0, b1, b2, b3, -, -, -, -, hlt⟩ := (hm1.bk (Bk.new w 26 [.int .i64 b.lo.x, .int .i64 b.lo.y, .int .i64 b.hi.x, .int .i64 b.hi.y]) id).four
  have HM1 := hid_ (((Mod.refl Nothing w).alloc (.cells #[.int .i64 b.lo.x, .int .i64 b.lo.y, .int .i64 b.hi.x, .int .i64 b.hi.y] 26)).trans hm1 (fun _ _ h => h))
  have HK1 := hid_ (hm1.bk (Bk.new w 26 [.int .i64 b.lo.x, .int .i64 b.lo.y, .int .i64 b.hi.x, .int .i64 b.hi.y]) id)
  clear hm1
  cases h1 : nearB b.lo with
  | false =>
    go_wp2
    go_returns
    exact ⟨by simp [propB, boxB, h1], HM1.out⟩
  | true =>
    have H1 := hid_ h1
    clear h1
    go_wp2_with fail
    refine (near_wf b.hi _ hb.2).mono ?_
    rintro e w2 ⟨rfl, hm2⟩
    have HM2 := hid_ (HM1.out.trans hm2 (fun _ _ h => h))
    clear b0 b1 b2 b3 hlt
    obtain ⟨b0, b1, b2, b3, -, -, -, -, hlt⟩ := (hm2.bk HK1.out id).four
    clear hm2
    cases h2 : nearB b.hi with
    | false =>
      go_wp2
      go_returns
      exact ⟨by simp [propB, boxB, h2], HM2.out⟩
    | true =>
      have H2 := hid_ h2
      clear h2
      by_cases h3 : b.lo.x ≤ b.hi.x
      · by_cases h4 : b.lo.y ≤ b.hi.y
        · have e : propB l b = !(!l.all nearB) := by simp [propB, boxB, H1.out, H2.out, h3, h4]
          have HE := hid_ e
          clear e
          go_wp2_with fail
          refine (HC.out _ HM2.out).mono ?_
          rintro e w3 ⟨rfl, hm3⟩
          have HM3 := hid_ (HM2.out.trans hm3 (fun _ _ h => h))
          clear hm3 b0 b1 b2 b3
          go_wp2
          go_returns
          rw [HE.out, Bool.not_not]
          exact ⟨rfl, HM3.out⟩
        · go_wp2
          go_returns
          exact ⟨ret_bool (by unfold propB boxB; rw [decide_eq_false (by omega)]; simp), HM2.out⟩
      · go_wp2
        go_returns
        exact ⟨ret_bool (by unfold propB boxB; rw [decide_eq_false (by omega)]; simp), HM2.out⟩
end Go.Proofs.Ytadiajlegajclaa
