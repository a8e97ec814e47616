/- (*Disk).settle: the pending writes of a list, one behind the other. -/
import Derived.Test.YtbioeeccbcaljaaA2
set_option linter.unusedVariables false
set_option linter.unusedSimpArgs false
namespace Go.Proofs.Ytbioeeccbcaljaa
open Go.RowKit

def put1 (st : List UInt8) (p : Nat × ByteArray) : List UInt8 := splice st (p.1 * 64) (bts p.2)
def settleL (st : List UInt8) (q : List (Nat × ByteArray)) : List UInt8 := q.foldl put1 st

theorem put1_length (st : List UInt8) (p : Nat × ByteArray) (h : p.1 * 64 + p.2.size ≤ st.length) : (put1 st p).length = st.length := by
  unfold put1
  exact length_splice _ _ _ h
theorem settleL_length : ∀ (q : List (Nat × ByteArray)) (st : List UInt8), (∀ p ∈ q, p.1 * 64 + p.2.size ≤ st.length) → (settleL st q).length = st.length
  | [], _, _ => rfl
  | p :: q, st, h => by
    have h1 := put1_length st p (h p (by simp))
    show (settleL (put1 st p) q).length = _
    rw [settleL_length q (put1 st p) (fun p' hp => by rw [h1]; exact h p' (by simp [hp])), h1]
theorem settleL_snoc (st : List UInt8) (q : List (Nat × ByteArray)) (k : Nat) (p : Nat × ByteArray) (h : q[k]? = some p) : settleL st (q.take (k + 1)) = put1 (settleL st (q.take k)) p := by
  rw [List.take_add_one, h]
  simp [settleL]

/-- The slice A reads as these pending writes. -/
def QRow (w : World) (A : Option Addr) (q : List (Nat × ByteArray)) : Prop :=
  q ≠ [] → ∃ g cs, A = some ⟨g, 0, none⟩ ∧ Bk w g 70 cs ∧ cs.take (q.length * 3) = pendCells q

theorem pendCells_at : ∀ (q : List (Nat × ByteArray)) (k : Nat) (p : Nat × ByteArray), q[k]? = some p →
    (pendCells q)[k * 3]? = some (.int .i64 ((p.1 * 64 : Nat) : Int)) ∧ (pendCells q)[k * 3 + 1]? = some (.int .i64 (((p.1 + 1) * 64 : Nat) : Int)) ∧ (pendCells q)[k * 3 + 2]? = some (.string p.2)
  | [], k, p, h => by simp at h
  | x :: q, 0, p, h => by simp at h; subst h; simp [pendCells]
  | x :: q, k + 1, p, h => by
    have ih := pendCells_at q k p (by simpa using h)
    have e : ∀ i, (pendCells (x :: q))[i + 3]? = (pendCells q)[i]? := fun i => by simp [pendCells]
    rw [show (k + 1) * 3 = k * 3 + 3 by omega, show k * 3 + 3 + 1 = (k * 3 + 1) + 3 by omega, show k * 3 + 3 + 2 = (k * 3 + 2) + 3 by omega, e, e, e]
    exact ih

theorem QRow.cells {w : World} {A : Option Addr} {q : List (Nat × ByteArray)} (h : QRow w A q) (k : Nat) (p : Nat × ByteArray) (hk : q[k]? = some p) :
    ∃ g cs, A = some ⟨g, 0, none⟩ ∧ Bk w g 70 cs ∧ cs[k * 3]? = some (.int .i64 ((p.1 * 64 : Nat) : Int)) ∧ cs[k * 3 + 1]? = some (.int .i64 (((p.1 + 1) * 64 : Nat) : Int)) ∧ cs[k * 3 + 2]? = some (.string p.2) := by
  obtain ⟨g, cs, hA, hb, ht⟩ := h (by rintro rfl; simp at hk)
  have hlt : k < q.length := (List.getElem?_eq_some_iff.1 hk).1
  have e : ∀ i, i < q.length * 3 → cs[i]? = (pendCells q)[i]? := fun i hi => by rw [← ht, List.getElem?_take_of_lt hi]
  obtain ⟨h0, h1, h2⟩ := pendCells_at q k p hk
  exact ⟨g, cs, hA, hb, by rw [e _ (by omega)]; exact h0, by rw [e _ (by omega)]; exact h1, by rw [e _ (by omega)]; exact h2⟩

set_option maxHeartbeats 1000000 in
theorem settle_any (d sb N m c : Nat) (A : Option Addr) (vq vo va : Value) (st : List UInt8) (q : List (Nat × ByteArray)) (w : World)
    (h1 : Bk w d 60 [.slice (some ⟨sb, 0, none⟩) N N, vq, vo, va]) (h2 : Bk w sb 5 (u8s st)) (hlen : st.length = N) (hN : N ≤ 1000000)
    (hq : QRow w A q) (hm : q.length = m) (hmN : m ≤ 1000000) (hit : ∀ p ∈ q, p.1 * 64 + 64 ≤ N ∧ p.2.size = 64) :
    Calls Try.prog 42 #[.pointer (some ⟨d, 0, none⟩), .slice A m c] w fun e w' =>
      e = .returned (.tuple #[]) ∧ Bk w' sb 5 (u8s (settleL st q)) ∧ Mod (fun k => k = sb) w w' := by
  have H1 : Hid (Bk w d 60 [.slice (some ⟨sb, 0, none⟩) N N, vq, vo, va]) := h1
  have H2 : Hid (Bk w sb 5 (u8s st)) := h2
  have H3 : Hid (st.length = N) := hlen
  have H4 : Hid (QRow w A q) := hq
  have H5 : Hid (q.length = m) := hm
  have H6 : Hid (∀ p ∈ q, p.1 * 64 + 64 ≤ N ∧ p.2.size = 64) := hit
  clear h1 h2 hlen hq hm hit
  go_enter Try.func42, Try.ntmps42
  go_wp2
  go_loopw [8] (fun i wr => ∃ k : Nat, k ≤ m ∧ i = .int .i64 k ∧ Bk wr sb 5 (u8s (settleL st (q.take k))) ∧ Mod (fun k => k = sb) w wr)
    (fun i _ => m - (intOf i).toNat)
  case atStart => exact ⟨0, Nat.zero_le _, rfl, by simpa [settleL] using H2.out, Mod.refl _ _⟩
  case round =>
    obtain ⟨k, hk, rfl, hst, hmod⟩ := hrel
    by_cases hlt : k < m
    · have hkq : k < q.length := by rw [H5.out]; exact hlt
      obtain ⟨p, hp⟩ : ∃ p, q[k]? = some p := ⟨_, List.getElem?_eq_getElem hkq⟩
      obtain ⟨g, cs, rfl, hbg, e0, e1, e2⟩ := H4.out.cells k p hp
      have hgs : g ≠ sb := hbg.ne H2.out (by decide)
      have hds : d ≠ sb := H1.out.ne H2.out (by decide)
      have hbg' : Bk wr g 70 cs := hmod.bk hbg hgs
      have hg := hbg'.lt
      have c0 := hbg'.cell (k * 3)
      have c1 := hbg'.cell (k * 3 + 1)
      have c2 := hbg'.cell (k * 3 + 2)
      rw [e0] at c0; rw [e1] at c1; rw [e2] at c2
      clear e0 e1 e2
      have hpm := H6.out p (List.mem_of_getElem? hp)
      have HB : Hid (Bk wr g 70 cs) := hbg'
      have HS : Hid (Bk wr sb 5 (u8s (settleL st (q.take k)))) := hst
      have HM : Hid (Mod (fun k => k = sb) w wr) := hmod
      have HP : Hid (q[k]? = some p) := hp
      have HI : Hid (p.1 * 64 + 64 ≤ N ∧ p.2.size = 64) := hpm
      clear hbg hbg' hst hmod hp hpm
      go_wp2_with fail
      refine (set_any d sb N (p.1 * 64) 64 _ _ vq vo va (u8s (settleL st (q.take k))) p.2 _ ((HM.out.bk H1.out hds).alloc _) (HS.out.alloc _) ?_ hN HI.out.1 (by omega) (by rw [HI.out.2]; omega) (by push_cast; rfl) (by push_cast; omega)).mono ?_
      · rw [u8s_length, settleL_length _ _ ?_, H3.out]
        intro p' hp'
        have := H6.out p' (List.mem_of_mem_take hp')
        rw [H3.out]; omega
      rintro e w' ⟨rfl, hb', hm'⟩
      have HB' : Hid (Bk w' sb 5 (u8s (settleL st (q.take (k + 1))))) := by
        rw [settleL_snoc _ _ _ _ HP.out, put1, u8s_splice]; exact hb'
      have HM' : Hid (Mod (fun k => k = sb) w w') := ((HM.out.alloc _).trans hm' (fun _ _ h => h))
      clear hb' hm'
      go_wp2
      go_roundw
      case rel => exact ⟨k + 1, by omega, by go_num, HB'.out, HM'.out⟩
      case measure => simp [intOf]; omega
    · have hkm : k = m := by omega
      go_wp2
      go_end0
      subst hkm
      rw [List.take_of_length_le (by rw [H5.out]; exact Nat.le_refl _)] at hst
      exact ⟨rfl, hst, hmod⟩

end Go.Proofs.Ytbioeeccbcaljaa
