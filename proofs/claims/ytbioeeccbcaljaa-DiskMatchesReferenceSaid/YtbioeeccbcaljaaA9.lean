/- (*Disk).Read. -/
import Derived.Test.YtbioeeccbcaljaaA8
set_option linter.unusedVariables false
set_option linter.unusedSimpArgs false
namespace Go.Proofs.Ytbioeeccbcaljaa
open Go.RowKit

/-- The text of the last pending write to a sector, or what was there. -/
def readQ (s0 : ByteArray) (q : List (Nat × ByteArray)) (i : Nat) : ByteArray := q.foldl (fun out p => if p.1 = i then p.2 else out) s0
def DK.sec (A : DK) (i : Nat) : ByteArray := ⟨((A.st.drop (i * 64)).take 64).toArray⟩
def DK.read (A : DK) (s : Int) : ByteArray × Int :=
  if A.off then (⟨#[]⟩, 22) else if 0 ≤ s ∧ s < A.n then (readQ (A.sec s.toNat) A.q s.toNat, 0) else (⟨#[]⟩, 1)

theorem readQ_succ (s0 : ByteArray) (q : List (Nat × ByteArray)) (i k : Nat) (p : Nat × ByteArray) (h : q[k]? = some p) :
    readQ s0 (q.take (k + 1)) i = if p.1 = i then p.2 else readQ s0 (q.take k) i := by
  rw [List.take_add_one, h]
  simp [readQ]

/-- A text and a number come back; nothing has changed. -/
def RPost (r : ByteArray × Int) (w : World) (e : Ending) (w' : World) : Prop := e = .returned (.tuple #[.string r.1, .int .i64 r.2]) ∧ Mod Nothing w w'

theorem read_nil (s : Int) (w : World) : Calls Try.prog 18 #[.pointer none, .int .i64 s] w (RPost (⟨#[]⟩, 1) w) := by
  go_enter Try.func18, Try.ntmps18
  go_wp2_with fail
  refine (at_nil s w).mono ?_
  rintro e w1 ⟨rfl, hm⟩
  have HM := hid_ hm
  clear hm
  go_wp2
  go_returns
  exact ⟨rfl, HM.out.alloc _⟩

theorem read_off {w : World} {F : DF} {A : DK} (h : DiskAt w F A) (ho : A.off = true) (s : Int) : Calls Try.prog 18 #[dptr F, .int .i64 s] w (RPost (⟨#[]⟩, 22) w) := by
  have H := hid_ h
  have HO := hid_ ho
  clear h ho
  go_enter Try.func18, Try.ntmps18
  go_wp2_with fail
  refine (at_off H.out HO.out s).mono ?_
  rintro e w1 ⟨rfl, hm⟩
  have HM := hid_ hm
  clear hm
  go_wp2
  go_returns
  exact ⟨rfl, HM.out.alloc _⟩

theorem read_bad {w : World} {F : DF} {A : DK} (h : DiskAt w F A) (ho : A.off = false) (s : Int) (hs : s < 0 ∨ (A.n : Int) ≤ s) : Calls Try.prog 18 #[dptr F, .int .i64 s] w (RPost (⟨#[]⟩, 1) w) := by
  have H := hid_ h
  have HO := hid_ ho
  have HS := hid_ hs
  clear h ho hs
  go_enter Try.func18, Try.ntmps18
  go_wp2_with fail
  refine (at_no H.out HO.out s HS.out).mono ?_
  rintro e w1 ⟨rfl, hm⟩
  have HM := hid_ hm
  clear hm
  go_wp2
  go_returns
  exact ⟨rfl, HM.out.alloc _⟩

set_option maxHeartbeats 1000000 in
theorem read_on {w : World} {F : DF} {A : DK} (h : DiskAt w F A) (ho : A.off = false) (i : Nat) (hi : i < A.n) : Calls Try.prog 18 #[dptr F, .int .i64 (i : Int)] w (RPost (readQ (A.sec i) A.q i, 0) w) := by
  have H := hid_ h
  have HO := hid_ ho
  clear h ho
  go_enter Try.func18, Try.ntmps18
  go_wp2_with fail
  refine (at_yes H.out HO.out i hi).mono ?_
  rintro e w1 ⟨rfl, hm⟩
  have HM := hid_ hm
  have h1 := H.out.mod hm (fun _ _ => id)
  have H1 := hid_ h1
  clear hm
  obtain ⟨c0, c1, c2, c3, f0, f1, f2, f3, hd⟩ := h1.head.four
  obtain ⟨ao, cap, hqv, hcap, hnone, hsome, hrow⟩ := h1.qform
  rw [hqv] at c1
  have hrow' := hrow A.q.length
  rw [List.take_of_length_le (Nat.le_refl _)] at hrow'
  have HR := hid_ hrow'
  have hfew := h1.ok.few
  have htop := h1.ok.top
  have hst : ∀ n, (convert 56 9 (.slice (some ⟨F.sb, i * 64, none⟩) 64 (A.n * 64 - i * 64))).run Try.prog ((w1.alloc (.cells #[.int .i64 ((i : Int) * 64), .int .i64 (((i : Int) + 1) * 64)] 66)).drewN n) =
      .ok (.string (A.sec i)) ((w1.alloc (.cells #[.int .i64 ((i : Int) * 64), .int .i64 (((i : Int) + 1) * 64)] 66)).drewN n) := fun n =>
    run_string_row _ F.sb (i * 64) 64 (A.n * 64 - i * 64) _ 5 ((A.st.drop (i * 64)).take 64) ((h1.stable.alloc _).drewN n) (by rw [List.length_take, List.length_drop, h1.ok.len]; omega) (by rw [u8s_take, u8s_drop])
  have HST := hid_ hst
  clear h1 hqv hnone hsome hrow hrow' f0 f1 f2 f3 hst
  go_wp2_with fail
  go_loopw [8] (fun v wr => ∃ z : Int, -1 ≤ z ∧ z < A.q.length ∧ v = .int .i64 z ∧ readQ (A.sec i) (A.q.take (z + 1).toNat) i = readQ (A.sec i) A.q i ∧
      ∃ nq, wr = (w1.alloc (.cells #[.int .i64 ((i : Int) * 64), .int .i64 (((i : Int) + 1) * 64)] 66)).drewN nq)
    (fun v _ => ((intOf v) + 1).toNat)
  case atStart =>
    refine ⟨_, ?_, ?_, rfl, ?_, 0, rfl⟩
    · omega
    · omega
    · rw [List.take_of_length_le (by omega)]
  case round =>
    obtain ⟨z, hz0, hz1, rfl, hrq, nq, rfl⟩ := hrel
    have HRQ := hid_ hrq
    clear hrq
    by_cases hz : 0 ≤ z
    · obtain ⟨k, rfl⟩ := Int.eq_ofNat_of_zero_le hz
      have hk : k < A.q.length := by omega
      obtain ⟨p, hp⟩ : ∃ p, A.q[k]? = some p := ⟨_, List.getElem?_eq_getElem hk⟩
      obtain ⟨g, cs, hao, hbg, e0, e1, e2⟩ := HR.out.cells k p hp
      have hg := hbg.lt
      have g0 := hbg.cell (k * 3)
      have g2 := hbg.cell (k * 3 + 2)
      rw [e0] at g0; rw [e2] at g2
      have HP := hid_ hp
      subst hao
      have HR := hid_ HR
      clear hbg e0 e1 e2 hp hz
      have hqq := readQ_succ (A.sec i) A.q i k p HP.out
      have HQQ := hid_ hqq
      clear hqq
      by_cases hpi : p.1 = i
      · subst hpi
        go_wp2_with fail
        go_quiet (fail)
        go_wp2
        go_returns
        have e : readQ (A.sec p.1) A.q p.1 = p.2 := by rw [← HRQ.out, show ((k : Int) + 1).toNat = k + 1 by omega, HQQ.out]; simp
        rw [e]
        exact ⟨rfl, ((HM.out.alloc _).drewN _)⟩
      · have hb : (((p.1 * 64 : Nat) : Int) == (i : Int) * 64) = false := by rw [beq_eq_false_iff_ne]; omega
        go_wp2_with fail
        go_quiet (fail)
        go_wp2
        go_roundw
        case rel =>
          refine ⟨_, ?_, ?_, rfl, ?_, _, rfl⟩
          · omega
          · omega
          · rw [show ((k : Int) - 1 + 1).toNat = k by omega, ← HRQ.out, show ((k : Int) + 1).toNat = k + 1 by omega, HQQ.out, if_neg hpi]
        case measure => (simp [intOf])
    · have hz' : z = -1 := by omega
      subst hz'
      go_wp2_with fail
      have hsq : readQ (A.sec i) A.q i = A.sec i := HRQ.out.symm
      have HSQ := hid_ hsq
      have hst := HST.out
      have a1 : (0 : Int) ≤ (i : Int) * 64 := by omega
      have a2 : (i : Int) * 64 ≤ ((i : Int) + 1) * 64 := by omega
      have a3 : ((i : Int) + 1) * 64 ≤ (A.n : Int) * 64 := by omega
      have a4 : ((i : Int) * 64).toNat = i * 64 := by omega
      have a5 : (((i : Int) + 1) * 64).toNat - i * 64 = 64 := by omega
      have a6 : ¬ A.n = i := by omega
      clear hsq
      go_quiet (fail)
      go_wp2
      go_returns
      rw [HSQ.out]
      exact ⟨rfl, (((HM.out.alloc _).drewN _).drewN _)⟩

theorem read_any {w : World} {F : DF} {A : DK} (h : DiskAt w F A) (s : Int) : Calls Try.prog 18 #[dptr F, .int .i64 s] w (RPost (A.read s) w) := by
  cases ho : A.off with
  | true => rw [DK.read, if_pos ho]; exact read_off h ho s
  | false =>
    rw [DK.read, if_neg (by rw [ho]; simp)]
    by_cases hs : 0 ≤ s ∧ s < A.n
    · rw [if_pos hs]
      obtain ⟨i, rfl⟩ := Int.eq_ofNat_of_zero_le hs.1
      exact read_on h ho i (by omega)
    · rw [if_neg hs]
      exact read_bad h ho s (by omega)

end Go.Proofs.Ytbioeeccbcaljaa
