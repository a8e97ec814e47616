/- backwards. -/
import Derived.Test.YtadiajlegajclaaL3
set_option linter.unusedVariables false
set_option linter.unusedSimpArgs false
namespace Go.Proofs.Ytadiajlegajclaa
open Go.RowKit

set_option maxRecDepth 100000 in
set_option maxHeartbeats 4000000 in
theorem backwards_any (w : World) (A : Option Addr) (c n : Nat) (l : List Pt) (hn : l.length = n) (hl : PtsAt w w.heap.size A l) (hm : n ≤ 100000) :
    Calls Try.prog 24 #[.slice A n c] w fun e w' => ∃ v, e = .returned v ∧ OwnPts w' v l.reverse ∧ Mod Nothing w w' := by
  have HL := hid_ hl
  have HN := hid_ hn
  obtain ⟨i0, hi0, hz0, hz1, hz2⟩ := info_parts Try.info24
  have HI0 := hid_ hi0
  have HZ0 := hid_ hz0
  have HZ1 := hid_ hz1
  have HZ2 := hid_ hz2
  have v0 : IntKind.i64.wrap ((n : Int) - 1) = (n : Int) - 1 := IntWalk.i64_in _ (by omega)
  clear hl hn hi0 hz0 hz1 hz2
  go_enter Try.func24, Try.ntmps24
  go_wp2_with fail
  go_loopw [3, 4] (fun v i wr => ∃ j : Nat, j ≤ n ∧ i = .int .i64 ((n : Int) - 1 - j) ∧ wr.ownsRow w.heap.size 24 2 v j (ptCells (l.reverse.take j)) ∧ Mod Nothing w wr) (fun _ i _ => (intOf i + 1).toNat)
  case atStart => exact ⟨0, Nat.zero_le _, by go_num, World.ownsRow_nil _ _ _ _, Mod.refl _ _⟩
  case round =>
    obtain ⟨j, hj, rfl, hown, hmd⟩ := hrel
    have HO := hid_ hown
    have HM := hid_ hmd
    clear hown hmd
    by_cases hlt : j < n
    · obtain ⟨k, hk⟩ : ∃ k, k = n - 1 - j := ⟨_, rfl⟩
      have hik : (n : Int) - 1 - j = (k : Int) := by omega
      rw [hik]
      obtain ⟨p, hp⟩ : ∃ p, l[k]? = some p := ⟨_, List.getElem?_eq_getElem (by rw [HN.out]; omega)⟩
      have HP := hid_ (show l.reverse[j]? = some p by rw [List.getElem?_reverse (by rw [HN.out]; exact hlt), HN.out, ← hk, hp])
      obtain ⟨bb, off, hA, hbb, p0, p1⟩ := (HL.out.mod HM.out (Nat.le_refl _) (fun _ _ => id)) k p hp
      have v1 : (0 : Int) ≤ (k : Int) := by omega
      have v2 : (k : Int) < n := by omega
      have v3 : IntKind.i64.wrap ((k : Int) - 1) = (k : Int) - 1 := IntWalk.i64_in _ (by omega)
      have hbw : w.heap.size ≤ wr.heap.size := HM.out.size
      have HKL := hid_ (show (l.reverse.take j).length = j by rw [List.length_take, List.length_reverse, HN.out]; omega)
      subst hA
      have HKK := hid_ hk
      have hkn : k + 1 + j = n := by omega
      clear hp hk hik
      go_wp2_with (at_builtin; refine wpList_append_lies _ rfl (.tmp 12) (.tmp 17) 22 rfl w.heap.size 24 i0 _ 2 16 Try.underlying22 HI0.out HZ0.out HZ1.out HZ2.out rfl (by decide) _ j (ptCells (l.reverse.take j)) rfl (HO.out.alloc _) ⟨wr.heap.size, 0, none⟩ 1 1 (ptCells [p]) rfl rfl (World.news_of_block (cs := #[.int .i64 p.x, .int .i64 p.y]) (t := 24) (fr := (0, 0)) (heap_alloc_new _ _)) (ptCells_one _) (by decide) (by unfold maxLen; omega) (by omega) (by simp; omega) (wr.heap.size + 1) (by simp) ?_)
      intro g1 cap1 wp1 hown1 hgrow1 hat1 hlt1
      have HM1 := hid_ ((HM.out.alloc (.cells #[.int .i64 p.x, .int .i64 p.y] 24)).grown hgrow1 (fun k hk hl => absurd hl (by have := own_ge HO.out hk; omega)))
      have HOC := hid_ (show wp1.ownsRow w.heap.size 24 2 (.slice (some ⟨g1, 0, none⟩) (j + 1) cap1) (j + 1) (ptCells (l.reverse.take (j + 1))) by rw [List.take_add_one, HP.out]; show World.ownsRow _ _ _ _ _ _ (ptCells (List.take j l.reverse ++ [p])); rw [ptCells_append]; exact hown1)
      clear hown1 hgrow1 hat1 hlt1 p0 p1
      go_wp2
      go_roundw
      case rel => exact ⟨j + 1, by omega, by rw [show (n : Int) - 1 - ((j + 1 : Nat) : Int) = (k : Int) - 1 by have := HKK.out; omega], HOC.out, HM1.out⟩
      case measure => simp [intOf] <;> omega
    · have hjn : j = n := by omega
      subst hjn
      have hneg : (0 : Int) ≤ (j : Int) - 1 - j ↔ False := ⟨fun h => by omega, fun h => h.elim⟩
      go_wp2
      go_returns
      have e : l.reverse.take j = l.reverse := List.take_of_length_le (by rw [List.length_reverse, HN.out]; exact Nat.le_refl _)
      have h1 := HO.out
      rw [e] at h1
      exact ⟨_, rfl, own_base (by rw [List.length_reverse, HN.out]; exact h1), HM.out⟩
end Go.Proofs.Ytadiajlegajclaa
