/- The reference disk: Rot. -/
import Derived.Test.YtbioeeccbcaljaaR5
set_option linter.unusedVariables false
set_option linter.unusedSimpArgs false
namespace Go.Proofs.Ytbioeeccbcaljaa
open Go.RowKit

set_option maxHeartbeats 1000000 in
theorem rrot_not {w : World} {G : RF} {A : DK} (h : RefAt w G A) (s at_ m : Int) (hv : ¬ (0 ≤ s ∧ s < A.n ∧ 0 ≤ at_ ∧ at_ < 64 ∧ 0 < m ∧ m < 256)) : Calls Try.prog 38 #[rptr G, .int .i64 s, .int .i64 at_, .int .i64 m] w (RVPost G A w) := by
  obtain ⟨c0, c1, c2, c3, c4, c5, c6, f0, f1, f2, f3, f4, f5, f6, hd⟩ := h.head.seven
  unfold RF.sv at c0
  have H := hid_ h
  have htop := h.ok.top
  clear h c1 c2 c3 c4 c5 c6 f0 f1 f2 f3 f4 f5 f6
  have HV := hid_ hv
  clear hv
  go_enter Try.func38, Try.ntmps38
  by_cases h1 : s < 0
  · go_wp2
    go_returns
    exact ⟨rfl, .same H.out (Mod.refl _ _)⟩
  by_cases h2 : (A.n : Int) ≤ s
  · go_wp2
    go_returns
    exact ⟨rfl, .same H.out (Mod.refl _ _)⟩
  by_cases h3 : at_ < 0
  · go_wp2
    go_returns
    exact ⟨rfl, .same H.out (Mod.refl _ _)⟩
  by_cases h4 : 64 ≤ at_
  · go_wp2
    go_returns
    exact ⟨rfl, .same H.out (Mod.refl _ _)⟩
  by_cases h5 : m < 1
  · go_wp2
    go_returns
    exact ⟨rfl, .same H.out (Mod.refl _ _)⟩
  have h6 : 255 < m := by have := HV.out; omega
  go_wp2
  go_returns
  exact ⟨rfl, .same H.out (Mod.refl _ _)⟩

theorem secL_set {st : List UInt8} {n i j k : Nat} (hl : st.length = n * 64) (hi : i < n) (hj : j < 64) (x : UInt8) : secL (st.set (i * 64 + j) x) k = if i = k then (secL st k).set j x else secL st k := by
  apply List.ext_getElem?
  intro q
  rw [secL_get, List.getElem?_set]
  by_cases e : i = k
  · subst e
    rw [if_pos rfl, List.getElem?_set]
    have hlen : (secL st i).length = 64 := by unfold secL; rw [List.length_take, List.length_drop]; omega
    by_cases h : q < 64
    · rw [if_pos h]
      by_cases hq : j = q
      · subst hq; rw [if_pos rfl, if_pos rfl, if_pos (by omega), if_pos (by omega)]
      · rw [if_neg (by omega), if_neg hq, secL_get, if_pos h]
    · rw [if_neg h, if_neg (by omega), secL_get, if_neg h]
  · rw [if_neg e, secL_get]
    by_cases h : q < 64
    · rw [if_pos h, if_neg (by omega), if_pos h]
    · rw [if_neg h, if_neg h]
theorem DK.secs_set {A : DK} (hl : A.st.length = A.n * 64) {i j : Nat} (hi : i < A.n) (hj : j < 64) (x : UInt8) {T : ByteArray} (hT : bts T = (secL A.st i).set j x) :
    ({ A with st := A.st.set (i * 64 + j) x } : DK).secs = A.secs.set i T := by
  apply List.ext_getElem?
  intro k
  rw [List.getElem?_set, A.secs_len]
  unfold DK.secs
  by_cases hk : k < A.n
  · simp only [List.getElem?_map, List.getElem?_range hk, Option.map_some]
    have h1 := secL_set (k := k) hl hi hj x
    by_cases e : i = k
    · rw [if_pos e] at h1
      rw [if_pos e, if_pos hi]
      subst e
      congr 1
      exact ba_ext (h1.trans hT.symm)
    · rw [if_neg e] at h1
      rw [if_neg e]
      congr 1
      exact ba_ext h1
  · rw [List.getElem?_eq_none (by simp; omega), if_neg (by omega), List.getElem?_eq_none (by simp; omega)]
theorem bts_torn {S : ByteArray} {j : Nat} (hj : j < S.size) (x : UInt8) : bts (S.extract 0 j ++ ⟨#[x]⟩ ++ S.extract (j + 1) S.size) = (bts S).set j x := by
  have h2 : (bts S).length = S.size := rfl
  rw [List.set_eq_take_append_cons_drop, if_pos (by omega)]
  have e : ((bts S).drop (j + 1)).take (S.size - (j + 1)) = (bts S).drop (j + 1) := by
    rw [List.take_of_length_le]; rw [List.length_drop]; omega
  rw [← e]
  simp [bts]
theorem run_string_bk {w : World} {g : Nat} {x : UInt8} (h : Bk w g 5 [.int .u8 x.toNat]) : (convert 56 9 (.slice (some ⟨g, 0, none⟩) 1 1)).run Try.prog w = .ok (.string ⟨#[x]⟩) w :=
  run_string_row w g 0 1 1 [.int .u8 x.toNat] 5 [x] h rfl rfl

set_option maxRecDepth 100000 in
set_option maxHeartbeats 1000000 in
theorem rrot_yes {w : World} {G : RF} {A : DK} (h : RefAt w G A) (i j m : Nat) (hi : i < A.n) (hj : j < 64) (hm0 : 0 < m) (hm1 : m < 256) :
    Calls Try.prog 38 #[rptr G, .int .i64 (i : Int), .int .i64 (j : Int), .int .i64 (m : Int)] w (RVPost G { A with st := A.st.set (i * 64 + j) (A.st.getD (i * 64 + j) 0 ^^^ UInt8.ofNat m) } w) := by
  obtain ⟨c0, -, -, -, -, -, -, -, -, -, -, -, -, -, hd⟩ := h.head.seven
  unfold RF.sv at c0
  have H := hid_ h
  have htop := h.ok.top
  have hc := h.srow.1 i hi
  have hf := h.srow.2 i
  have hsl := h.lt (.inr (.inl rfl))
  obtain ⟨S, hS⟩ : ∃ S, S = A.sec i := ⟨_, rfl⟩
  rw [← hS] at hc
  have hSS : S.size = 64 := by rw [hS]; exact h.ok.sec_size hi
  have hs1 : S.size ≤ 64 := by omega
  have hs2 : (64 : Int) ≤ S.size := by omega
  have a6 : j < S.size := by omega
  obtain ⟨x, hx⟩ : ∃ x, x = S[j]'a6 := ⟨_, rfl⟩
  have HSE := hid_ hS
  have HSS := hid_ hSS
  have hxo : bits BinOp.xor IntKind.u8 (x.toNat : Int) (m : Int) = ((x ^^^ UInt8.ofNat m).toNat : Int) := by
    rw [u8_xor_nat _ _ x.toNat_lt hm1]; simp [Nat.mod_eq_of_lt hm1]
  have a1 : (0 : Int) ≤ i := by omega
  have a2 : (i : Int) < A.n := by omega
  have a3 : (0 : Int) ≤ j := by omega
  have a4 : (j : Int) < S.size := by omega
  have a5 : (j : Int) < 64 := by omega
  have HXE := hid_ hx
  clear h hS hSS
  go_enter Try.func38, Try.ntmps38
  have HXO := hid_ hxo
  rw [hx] at hxo
  clear hx
  obtain ⟨X, hX⟩ : ∃ X : UInt8, X = S[j] ^^^ UInt8.ofNat m := ⟨_, rfl⟩
  have HX := hid_ hX
  rw [← hX] at hxo
  clear hX
  go_wp2
  have b1 : IntKind.i64.wrap ((j : Int) + 1) = (j : Int) + 1 := IntWalk.i64_in _ (by omega)
  have b2 : ¬ 9223372036854775807 < min j S.size + 1 := by omega
  have b3 : ¬ 9223372036854775807 < min j S.size + 1 + (S.size - (j + 1)) := by omega
  have b7 : (j : Int) ≤ S.size := by omega
  have b4 : (j : Int) + 1 ≤ S.size := by omega
  have b5 : (0 : Int) ≤ (j : Int) + 1 := by omega
  have b6 : ((j : Int) + 1).toNat = j + 1 := by omega
  have hcv := run_string_bk (x := X) (w := (w.alloc (Obj.cells #[Value.int IntKind.u8 (X.toNat : Int)] 5)).drew) (g := w.heap.size) (Bk.drew (Bk.new _ _ _))
  refine still_tail 17 (by kernel_rfl) (by kernel_rfl) ?_
  simp only [List.take_succ_cons, List.take_zero, List.drop_succ_cons, List.drop_zero]
  repeat still_step
  refine wpStill_nil ?_
  clear b1 b6
  go_wp2
  go_end0
  refine ⟨rfl, ?_⟩
  have hT := bts_torn a6 X
  have e1 : bts S = secL A.st i := by rw [HSE.out]; rfl
  have hx : X = A.st.getD (i * 64 + j) 0 ^^^ UInt8.ofNat m := by
    rw [HX.out]
    congr 1
    have h1 : (secL A.st i)[j]? = some S[j] := by rw [← e1]; simp [bts, a6]; rfl
    rw [secL_get, if_pos hj] at h1
    rw [List.getD_eq_getElem?_getD, h1]; rfl
  rw [← hx]
  have HR1 := H.out.stored (t := S.extract 0 j ++ ⟨#[X]⟩ ++ S.extract (j + 1) S.size) hi (by simpa using H.out.ok.len) (DK.secs_set H.out.ok.len hi hj X (by rw [hT, e1]))
  exact ⟨G, rfl, fun k hk => .inl hk, HR1.keep fun k hk => Below.heap_alloc _ _ _ (HR1.lt hk), (((Mod.refl _ _).setCell (fun _ => .inr (.inl rfl)) _).alloc _).drew⟩

theorem rrot_any {w : World} {G : RF} {A : DK} (h : RefAt w G A) (s at_ m : Int) : Calls Try.prog 38 #[rptr G, .int .i64 s, .int .i64 at_, .int .i64 m] w (RVPost G (A.rot s at_ m) w) := by
  by_cases hv : 0 ≤ s ∧ s < A.n ∧ 0 ≤ at_ ∧ at_ < 64 ∧ 0 < m ∧ m < 256
  · have e : A.rot s at_ m = { A with st := A.st.set (s * 64 + at_).toNat ((A.st.getD (s * 64 + at_).toNat 0) ^^^ UInt8.ofNat m.toNat) } := by rw [DK.rot, if_pos hv]
    obtain ⟨h0, h1, h2, h3, h4, h5⟩ := hv
    obtain ⟨i, rfl⟩ := Int.eq_ofNat_of_zero_le h0
    obtain ⟨j, rfl⟩ := Int.eq_ofNat_of_zero_le h2
    obtain ⟨k, rfl⟩ := Int.eq_ofNat_of_zero_le (Int.le_of_lt h4)
    rw [e, show ((i : Int) * 64 + (j : Int)).toNat = i * 64 + j by omega, show (k : Int).toNat = k by omega]
    exact rrot_yes h i j k (by omega) (by omega) (by omega) (by omega)
  · rw [DK.rot, if_neg hv]
    exact rrot_not h s at_ m hv

end Go.Proofs.Ytbioeeccbcaljaa
