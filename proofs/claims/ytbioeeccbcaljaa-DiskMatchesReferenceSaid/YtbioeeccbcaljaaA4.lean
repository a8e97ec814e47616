/- (*Disk).place, (*Disk).at: what they answer. -/
import Derived.Test.YtbioeeccbcaljaaA3
set_option linter.unusedVariables false
set_option linter.unusedSimpArgs false
namespace Go.Proofs.Ytbioeeccbcaljaa
open Go.RowKit

abbrev dptr (F : DF) : Value := .pointer (some ⟨F.d, 0, none⟩)
def Nothing (_ : Nat) : Prop := False

theorem tdiv64 (n : Nat) : ((n * 64 : Nat) : Int).tdiv 64 = n := by
  rw [Int.tdiv_eq_ediv_of_nonneg (by omega)]; omega

set_option maxHeartbeats 400000 in
theorem place_yes {w : World} {F : DF} {A : DK} (h : DiskAt w F A) (i : Nat) (hi : i < A.n) :
    Calls Try.prog 44 #[dptr F, .int .i64 (i : Int)] w fun e w' => e = .returned (.tuple #[.agg #[.int .i64 ((i : Int) * 64), .int .i64 (((i : Int) + 1) * 64)], .bool true]) ∧ Mod Nothing w w' := by
  have hd := h.head.lt
  have c0 := h.head.cell 0
  simp only [List.getElem?_cons_zero] at c0
  have hn := h.ok.top
  have b1 := tdiv64 A.n
  have b2 : (i : Int) < A.n := by omega
  obtain ⟨N, hN⟩ : ∃ N, N = A.n * 64 := ⟨_, rfl⟩
  rw [← hN] at c0 b1
  clear hN h
  go_enter Try.func44, Try.ntmps44
  go_wp2
  go_returns
  exact ⟨rfl, (Mod.refl _ _).alloc _⟩

set_option maxHeartbeats 400000 in
theorem place_no {w : World} {F : DF} {A : DK} (h : DiskAt w F A) (s : Int) (hs : s < 0 ∨ (A.n : Int) ≤ s) :
    Calls Try.prog 44 #[dptr F, .int .i64 s] w fun e w' => e = .returned (.tuple #[.agg #[.int .i64 0, .int .i64 0], .bool false]) ∧ Mod Nothing w w' := by
  have hd := h.head.lt
  have c0 := h.head.cell 0
  simp only [List.getElem?_cons_zero] at c0
  have hn := h.ok.top
  have b1 := tdiv64 A.n
  obtain ⟨N, hN⟩ : ∃ N, N = A.n * 64 := ⟨_, rfl⟩
  rw [← hN] at c0 b1
  clear hN h
  rcases hs with hs | hs
  · go_enter Try.func44, Try.ntmps44
    go_wp2
    go_returns
    exact ⟨rfl, (Mod.refl _ _).alloc _⟩
  · have h0 : 0 ≤ s := by omega
    go_enter Try.func44, Try.ntmps44
    go_wp2
    go_returns
    exact ⟨rfl, (Mod.refl _ _).alloc _⟩

theorem place_nil (s : Int) (w : World) :
    Calls Try.prog 44 #[.pointer none, .int .i64 s] w fun e w' => e = .returned (.tuple #[.agg #[.int .i64 0, .int .i64 0], .bool false]) ∧ Mod Nothing w w' := by
  go_enter Try.func44, Try.ntmps44
  go_wp2
  go_returns
  exact ⟨rfl, (Mod.refl _ _).alloc _⟩

set_option maxHeartbeats 400000 in
theorem at_off {w : World} {F : DF} {A : DK} (h : DiskAt w F A) (ho : A.off = true) (s : Int) :
    Calls Try.prog 40 #[dptr F, .int .i64 s] w fun e w' => e = .returned (.tuple #[.agg #[.int .i64 0, .int .i64 0], .int .i64 22]) ∧ Mod Nothing w w' := by
  have hd := h.head.lt
  have c2 := h.head.cell 2
  simp only [List.getElem?_cons_succ, List.getElem?_cons_zero, ho] at c2
  clear h ho
  go_enter Try.func40, Try.ntmps40
  go_wp2_with fail
  go_returns
  exact ⟨rfl, (Mod.refl _ _).alloc _⟩

set_option maxHeartbeats 400000 in
theorem at_yes {w : World} {F : DF} {A : DK} (h : DiskAt w F A) (ho : A.off = false) (i : Nat) (hi : i < A.n) :
    Calls Try.prog 40 #[dptr F, .int .i64 (i : Int)] w fun e w' => e = .returned (.tuple #[.agg #[.int .i64 ((i : Int) * 64), .int .i64 (((i : Int) + 1) * 64)], .int .i64 0]) ∧ Mod Nothing w w' := by
  have hd := h.head.lt
  have c2 := h.head.cell 2
  simp only [List.getElem?_cons_succ, List.getElem?_cons_zero, ho] at c2
  have H : Hid (DiskAt w F A) := h
  clear h ho
  go_enter Try.func40, Try.ntmps40
  go_wp2_with fail
  refine (place_yes (H.out.keep fun k hk => Below.heap_alloc _ _ _ (H.out.lt hk)) i hi).mono ?_
  rintro e w' ⟨rfl, hm⟩
  obtain ⟨r0, r1, f0, f1, hlt⟩ := (hm.bk (Bk.new w 66 [.int .i64 0, .int .i64 0]) id).two
  have HM : Hid (Mod Nothing w w') := ((Mod.refl _ _).alloc _).trans hm (fun _ _ h => h)
  clear hm
  go_wp2
  refine bodyPost_ret (v := .tuple #[.agg #[.int .i64 ((i : Int) * 64), .int .i64 (((i : Int) + 1) * 64)], .int .i64 0]) ?_ rfl ⟨rfl, ?_⟩
  · simp [results, Try.results40, go_sem, r0, r1, hlt]
  · exact ((HM.out.setNew (Nat.le_refl _) _).setNew (Nat.le_refl _) _).alloc _

set_option maxHeartbeats 400000 in
theorem at_no {w : World} {F : DF} {A : DK} (h : DiskAt w F A) (ho : A.off = false) (s : Int) (hs : s < 0 ∨ (A.n : Int) ≤ s) :
    Calls Try.prog 40 #[dptr F, .int .i64 s] w fun e w' => e = .returned (.tuple #[.agg #[.int .i64 0, .int .i64 0], .int .i64 1]) ∧ Mod Nothing w w' := by
  have hd := h.head.lt
  have c2 := h.head.cell 2
  simp only [List.getElem?_cons_succ, List.getElem?_cons_zero, ho] at c2
  have H : Hid (DiskAt w F A) := h
  have HS : Hid (s < 0 ∨ (A.n : Int) ≤ s) := hs
  clear h ho hs
  go_enter Try.func40, Try.ntmps40
  go_wp2_with fail
  refine (place_no (H.out.keep fun k hk => Below.heap_alloc _ _ _ (H.out.lt hk)) s HS.out).mono ?_
  rintro e w' ⟨rfl, hm⟩
  obtain ⟨r0, r1, f0, f1, hlt⟩ := (hm.bk (Bk.new w 66 [.int .i64 0, .int .i64 0]) id).two
  have HM : Hid (Mod Nothing w w') := ((Mod.refl _ _).alloc _).trans hm (fun _ _ h => h)
  clear hm
  go_wp2
  refine bodyPost_ret (v := .tuple #[.agg #[.int .i64 0, .int .i64 0], .int .i64 1]) ?_ rfl ⟨rfl, ?_⟩
  · simp [results, Try.results40, go_sem, r0, r1, hlt]
  · exact ((HM.out.setNew (Nat.le_refl _) _).setNew (Nat.le_refl _) _).alloc _

theorem at_nil (s : Int) (w : World) :
    Calls Try.prog 40 #[.pointer none, .int .i64 s] w fun e w' => e = .returned (.tuple #[.agg #[.int .i64 0, .int .i64 0], .int .i64 1]) ∧ Mod Nothing w w' := by
  go_enter Try.func40, Try.ntmps40
  go_wp2_with fail
  refine (place_nil s _).mono ?_
  rintro e w' ⟨rfl, hm⟩
  obtain ⟨r0, r1, f0, f1, hlt⟩ := (hm.bk (Bk.new w 66 [.int .i64 0, .int .i64 0]) id).two
  have HM : Hid (Mod Nothing w w') := ((Mod.refl _ _).alloc _).trans hm (fun _ _ h => h)
  clear hm
  go_wp2
  refine bodyPost_ret (v := .tuple #[.agg #[.int .i64 0, .int .i64 0], .int .i64 1]) ?_ rfl ⟨rfl, ?_⟩
  · simp [results, Try.results40, go_sem, r0, r1, hlt]
  · exact ((HM.out.setNew (Nat.le_refl _) _).setNew (Nat.le_refl _) _).alloc _

end Go.Proofs.Ytbioeeccbcaljaa
