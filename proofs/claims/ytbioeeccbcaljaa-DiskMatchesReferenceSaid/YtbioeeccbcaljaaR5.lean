/- The reference disk: zero, Raw. -/
import Derived.Test.YtbioeeccbcaljaaR4
import Derived.Lib.AppendStr
set_option linter.unusedVariables false
set_option linter.unusedSimpArgs false
namespace Go.Proofs.Ytbioeeccbcaljaa
open Go.RowKit

def zeros (n : Nat) : ByteArray := ⟨(List.replicate n (0 : UInt8)).toArray⟩
theorem zeros_size (n : Nat) : (zeros n).size = n := by show (List.replicate n (0 : UInt8)).toArray.size = n; simp
theorem zeros_succ (n : Nat) : zeros n ++ ⟨#[0]⟩ = zeros (n + 1) := by
  apply ba_ext
  rw [ba_append]
  simp [zeros, List.replicate_succ']
set_option maxHeartbeats 400000 in
theorem rzero_any (n : Nat) (hn : n ≤ 64) (w : World) : Calls Try.prog 32 #[.int .i64 (n : Int)] w fun e w' => e = .returned (.string (zeros n)) ∧ w' = w := by
  go_enter Try.func32, Try.ntmps32
  go_wp2
  go_loop [3, 4] (fun s i => ∃ k : Nat, k ≤ n ∧ i = .int .i64 k ∧ s = .string (zeros k)) (fun _ i => n - (intOf i).toNat)
  case atStart => exact ⟨0, Nat.zero_le _, rfl, rfl⟩
  case round =>
    obtain ⟨k, hk, rfl, rfl⟩ := hrel
    obtain ⟨z, hz⟩ : ∃ z, z = zeros k := ⟨_, rfl⟩
    have hzs : z.size ≤ 64 := by rw [hz, zeros_size]; omega
    rw [← hz]
    have HZ := hid_ hz
    clear hz
    by_cases hlt : k < n
    · go_wp2
      go_round
      case rel => exact ⟨k + 1, by omega, by go_num, by rw [HZ.out, zeros_succ]⟩
      case measure => simp [intOf]; omega
    · have hkn : k = n := by omega
      subst hkn
      go_wp2
      go_returns
      rw [HZ.out]
      exact ⟨rfl, rfl⟩

theorem run_string_own {w : World} {base g n cap : Nat} {l : List UInt8} (h : w.ownsRow base 5 1 (.slice (some ⟨g, 0, none⟩) n cap) n (u8s l)) :
    (convert 56 9 (.slice (some ⟨g, 0, none⟩) n cap)).run Try.prog w = .ok (.string ⟨l.toArray⟩) w := by
  have hl : l.length = n := by have := h.1; rw [u8s_length] at this; omega
  rcases h.2 with ⟨hv, _⟩ | ⟨g', cap', cur, hv, _, hh, _, _, _, ht⟩
  · cases hv
  · injection hv with hp _ hc
    injection hp with hp
    injection hp with hp
    subst hp
    exact run_string_row w g 0 n cap cur.toList 5 l (by simpa [Bk] using hh) hl (by rw [List.drop_zero]; simpa using ht)

set_option maxHeartbeats 1000000 in
theorem rraw_any {w : World} {G : RF} {A : DK} (h : RefAt w G A) : Calls Try.prog 39 #[rptr G] w fun e w' => e = .returned (.string ⟨A.st.toArray⟩) ∧ Mod Nothing w w' := by
  have H := hid_ h
  obtain ⟨c0, -, -, -, -, -, -, -, -, -, -, -, -, -, hd⟩ := h.head.seven
  unfold RF.sv at c0
  have htop := h.ok.top
  have hpos := h.ok.pos
  obtain ⟨X, hX⟩ : ∃ X : ByteArray, X = ⟨A.st.toArray⟩ := ⟨_, rfl⟩
  rw [← hX]
  have HX := hid_ hX
  clear hX
  obtain ⟨n, hn⟩ : ∃ n, n = A.n := ⟨_, rfl⟩
  rw [← hn] at c0 htop hpos
  have HN := hid_ hn
  clear h hn
  obtain ⟨i0, hi0, hz0, hz1, hz2⟩ := info_parts Try.info5
  have HI0 := hid_ hi0
  have HZ0 := hid_ hz0
  have HZ1 := hid_ hz1
  have HZ2 := hid_ hz2
  clear hi0 hz0 hz1 hz2
  go_enter Try.func39, Try.ntmps39
  go_wp2_with (at_make; refine wpList_make_own _ rfl _ _ 56 rfl w.heap.size 5 i0 _ 1 Try.underlying56 HI0.out HZ0.out HZ1.out .i64 .i64 _ (n * 64) rfl rfl (by push_cast; rfl) (by rw [HZ2.out]; omega) (by unfold maxLen; omega) (Nat.le_refl _) ?_)
  intro w1 hown1 hgrow1
  have HOWN1 := hid_ hown1
  have HM1 := hid_ ((Mod.refl Nothing w).grown hgrow1 (fun k hk => by cases hk))
  clear hown1 hgrow1
  have c0' : w1.cell? ⟨G.d, 0, none⟩ = some (.slice (some ⟨G.sb, 0, none⟩) n G.sc) := (HM1.out.cell (p := ⟨G.d, 0, none⟩) hd id).trans c0
  have HC0 := hid_ c0
  have HDD := hid_ hd
  clear c0 hd
  go_wp2_with fail
  go_loopw [3, 4] (fun v i wr => ∃ k : Nat, k ≤ n ∧ i = .int .i64 k ∧ wr.ownsRow w.heap.size 5 1 v (k * 64) (u8s (A.st.take (k * 64))) ∧ Mod Nothing w wr) (fun _ i _ => n - (intOf i).toNat)
  case atStart => exact ⟨0, Nat.zero_le _, rfl, by simpa [u8s] using HOWN1.out, HM1.out⟩
  case round =>
    obtain ⟨k, hk, rfl, hown, hm⟩ := hrel

    have HOWN := hid_ hown
    have HM := hid_ hm
    clear hown hm c0'
    have c0 : wr.cell? ⟨G.d, 0, none⟩ = some (.slice (some ⟨G.sb, 0, none⟩) n G.sc) := (HM.out.cell (p := ⟨G.d, 0, none⟩) HDD.out id).trans HC0.out
    by_cases hlt : k < n
    · have hc := (H.out.mod HM.out (fun _ _ => id)).srow.1 k (by rw [← HN.out]; exact hlt)
      obtain ⟨S, hS⟩ : ∃ S, S = A.sec k := ⟨_, rfl⟩
      rw [← hS] at hc
      have hSS : S.size = 64 := by rw [hS]; exact H.out.ok.sec_size (by rw [← HN.out]; exact hlt)
      have HSE := hid_ hS
      have HSS := hid_ hSS
      have hle := HSS.out
      have a1 : (0 : Int) ≤ k := by omega
      have a2 : (k : Int) < n := by omega
      clear hS hSS
      go_wp2_with (at_builtin; refine Go.Lib.wpList_append_own_string _ rfl (.tmp 23) (.tmp 30) 56 9 rfl w.heap.size 5 i0 Try.underlying56 Try.underlying9 HI0.out HZ0.out HZ1.out HZ2.out _ (k * 64) _ rfl HOWN.out S rfl (by unfold maxLen; omega) (by omega) HM.out.size ?_)
      intro v' w2 hown2 hgrow2 _
      have e : u8s (A.st.take (k * 64)) ++ Go.Lib.strCells S = u8s (A.st.take ((k + 1) * 64)) := by
        have e1 : Go.Lib.strCells S = u8s ((A.st.drop (k * 64)).take 64) := by rw [HSE.out]; rfl
        rw [e1, ← u8s_append, show (k + 1) * 64 = k * 64 + 64 by omega, List.take_add]
      rw [e, show k * 64 + 64 = (k + 1) * 64 by omega] at hown2
      have HOWN2 := hid_ hown2
      have HM2 := hid_ (HM.out.grown hgrow2 (fun g hg hl => absurd hl (by have := own_ge HOWN.out hg; omega)))
      clear hown2 hgrow2 e hle
      go_wp2
      go_roundw
      case rel => exact ⟨k + 1, by omega, by go_num, HOWN2.out, HM2.out⟩
      case measure => simp [intOf]; omega
    · have hkn : k = n := by omega
      subst hkn
      obtain ⟨g, cap, hv, _, _⟩ := HOWN.out.form (by omega)
      have hown := HOWN.out
      subst hv
      have hst : A.st.take (k * 64) = A.st := List.take_of_length_le (by rw [H.out.ok.len, HN.out]; exact Nat.le_refl _)
      rw [hst] at hown
      have hr := run_string_own hown
      rw [← HX.out] at hr
      clear hown hst
      go_wp2
      go_returns
      exact ⟨rfl, HM.out⟩

end Go.Proofs.Ytbioeeccbcaljaa
