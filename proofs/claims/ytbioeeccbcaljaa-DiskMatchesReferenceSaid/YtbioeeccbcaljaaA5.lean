/- New, Start, Arm, Rot, Raw: what they do to a disk. -/
import Derived.Test.YtbioeeccbcaljaaA4
import Derived.Deep.OwnRows
set_option linter.unusedVariables false
set_option linter.unusedSimpArgs false
namespace Go.Proofs.Ytbioeeccbcaljaa
open Go.RowKit

def DK.new (n : Nat) : DK := ⟨n, List.replicate (n * 64) 0, [], false, none⟩
def DK.start (A : DK) : DK := { A with off := false, arm := none }
def DK.armK (A : DK) (a x y : Int) : DK := if A.off then A else { A with arm := if 0 ≤ a then some (a, x, y) else none }
def DK.rot (A : DK) (s at_ m : Int) : DK :=
  if 0 ≤ s ∧ s < A.n ∧ 0 ≤ at_ ∧ at_ < 64 ∧ 0 < m ∧ m < 256 then
    { A with st := A.st.set (s * 64 + at_).toNat ((A.st.getD (s * 64 + at_).toNat 0) ^^^ UInt8.ofNat m.toNat) } else A

theorem DK.new_ok (n : Nat) (h1 : 1 ≤ n) (h2 : n ≤ 8000) : (DK.new n).Ok :=
  ⟨by simp [DK.new], h1, h2, by simp [DK.new], by simp [DK.new], by simp [DK.new], by simp [DK.new]⟩

theorem u8s_replicate (n : Nat) : u8s (List.replicate n 0) = List.replicate n (.int .u8 0) := by simp [u8s]

theorem new_bad (n : Int) (w : World) (h : n < 1 ∨ 8000 < n) : Calls Try.prog 13 #[.int .i64 n] w fun e w' => e = .returned (.pointer none) ∧ w' = w := by
  rcases h with h | h
  · go_enter Try.func13, Try.ntmps13
    go_wp2
    go_ret
    exact ⟨rfl, rfl⟩
  · have h1 : ¬ n < 1 := by omega
    go_enter Try.func13, Try.ntmps13
    go_wp2
    go_ret
    exact ⟨rfl, rfl⟩

theorem Try.info5 : (Try.prog.info? 5).map (fun i => (i.zero, i.size, i.bytes)) = some (some (.int .u8 0), 1, 1) := by kernel_rfl

def NewPost (n : Nat) (w : World) (e : Ending) (w' : World) : Prop := ∃ F, e = .returned (dptr F) ∧ (∀ k, F.has k → w.heap.size ≤ k) ∧ DiskAt w' F (DK.new n) ∧ Mod Nothing w w'

set_option maxHeartbeats 400000 in
theorem new_any (n : Nat) (w : World) (h1 : 1 ≤ n) (h2 : n ≤ 8000) : Calls Try.prog 13 #[.int .i64 (n : Int)] w (NewPost n w) := by
  have b1 : ¬ (n : Int) < 1 := by omega
  obtain ⟨M, hM⟩ : ∃ M, M = (List.replicate (n * 64) (Value.int .u8 0)) := ⟨_, rfl⟩
  have hmk : ∀ w, (Instr.makeSlice 56 (.int .i64 ((n : Int) * 64)) (.int .i64 ((n : Int) * 64))).run Try.prog w = .ok (.slice (some ⟨w.heap.size, 0, none⟩) (n * 64) (n * 64)) (w.alloc (.cells M.toArray 5)) := by
    intro w
    have h := run_make_row' (P := Try.prog) 56 5 (.int .u8 0) 1 Try.underlying56 Try.info5 rfl .i64 .i64 (n * 64) (by omega) (by omega) w
    have e : madeCells #[Value.int .u8 0] (n * 64) = M.toArray := by
      rw [hM, ← toList_madeCells_one]
    rw [e] at h
    simpa using h
  have HM : Hid (M = (List.replicate (n * 64) (Value.int .u8 0))) := hM
  clear hM
  go_enter Try.func13, Try.ntmps13
  go_wp2
  go_ret
  have hb : Bk (w.alloc (.cells M.toArray 5)) w.heap.size 5 M := Bk.new _ _ _
  refine ⟨⟨w.heap.size + 1, w.heap.size, .slice none 0 0, none⟩, rfl, ?_, ?_, ((Mod.refl _ _).alloc _).alloc _⟩
  · rintro k (rfl | rfl | hk | hk)
    · exact Nat.le_succ _
    · exact Nat.le_refl _
    · cases hk
    · cases hk
  · have hb2 : Bk ((w.alloc (.cells M.toArray 5)).alloc (.cells #[.slice (some ⟨w.heap.size, 0, none⟩) (n * 64) (n * 64), .slice none 0 0, .bool false, .pointer none] 60)) (w.heap.size + 1) 60
        [.slice (some ⟨w.heap.size, 0, none⟩) (n * 64) (n * 64), .slice none 0 0, .bool false, .pointer none] := by
      simpa using Bk.new (w.alloc (.cells M.toArray 5)) 60 [.slice (some ⟨w.heap.size, 0, none⟩) (n * 64) (n * 64), .slice none 0 0, .bool false, .pointer none]
    exact ⟨hb2, by have := hb.alloc (.cells #[.slice (some ⟨w.heap.size, 0, none⟩) (n * 64) (n * 64), .slice none 0 0, .bool false, .pointer none] 60)
                   rw [HM.out] at this ⊢; simpa [DK.new, u8s_replicate] using this,
      World.ownsRow_nil _ _ _ _, fun _ => rfl, fun _ _ _ h => (by cases h), DK.new_ok n h1 h2⟩

/-- The struct's own cells after a store. -/
theorem start_nil (w : World) : Calls Try.prog 20 #[.pointer none] w fun e w' => e = .returned (.tuple #[]) ∧ w' = w := by
  go_enter Try.func20, Try.ntmps20
  go_wp2
  go_end0
  exact ⟨rfl, rfl⟩

def VPost (F : DF) (A' : DK) (w : World) (e : Ending) (w' : World) : Prop := e = .returned (.tuple #[]) ∧ DPost F w A' w'

set_option maxHeartbeats 400000 in
theorem start_any {w : World} {F : DF} {A : DK} (h : DiskAt w F A) : Calls Try.prog 20 #[dptr F] w (VPost F A.start w) := by
  obtain ⟨c0, c1, c2, c3, f0, f1, f2, f3, hd⟩ := h.head.four
  have H : Hid (DiskAt w F A) := h
  clear h
  go_enter Try.func20, Try.ntmps20
  go_wp2
  go_end0
  refine ⟨rfl, ⟨F.d, F.sb, F.qv, none⟩, rfl, fun k hk => .inl (DF.again_has (.inl rfl) (.inr rfl) hk), ?_, ?_⟩
  · refine H.out.again ((H.out.stable.far (Ne.symm H.out.ne_sb) _).far (Ne.symm H.out.ne_sb) _) H.out.ok.len (.inl ⟨rfl, rfl⟩) (.inr ⟨rfl, rfl⟩) ((H.out.head.set 2 _).set 3 _) ?_
    rintro k (hk | hk)
    · rw [Below.heap_setCell _ _ _ _ (H.out.ne_q hk).1, Below.heap_setCell _ _ _ _ (H.out.ne_q hk).1]
    · rw [Below.heap_setCell _ _ _ _ (H.out.ne_a hk).1, Below.heap_setCell _ _ _ _ (H.out.ne_a hk).1]
  · exact ((Mod.refl _ _).setCell (fun _ => .inl rfl) _).setCell (fun _ => .inl rfl) _

theorem DiskAt.setArm {w w' : World} {F : DF} {A : DK} (h : DiskAt w F A) {g : Nat} {a x y : Int} (h0 : 0 ≤ a) (h1 : a ≤ 9223372036854775807)
    (hb : Bk w' F.d 60 [.slice (some ⟨F.sb, 0, none⟩) (A.n * 64) (A.n * 64), F.qv, .bool A.off, armPtr (some g)]) (hg : Bk w' g 76 [.int .i64 a, .int .i64 x, .int .i64 y])
    (hk : ∀ k, (k = F.sb ∨ F.qv.ownBlock = some k) → w'.heap[k]? = w.heap[k]?) : DiskAt w' ⟨F.d, F.sb, F.qv, some g⟩ { A with arm := some (a, x, y) } where
  head := hb
  stable := (hk _ (.inl rfl)).trans h.stable
  queue := own_keep h.queue fun k e => hk k (.inr e)
  noarm := fun h => by cases h
  armed := fun a' x' y' e => by cases e; exact ⟨g, rfl, hg⟩
  ok := ⟨h.ok.len, h.ok.pos, h.ok.top, h.ok.items, h.ok.few, fun a' x' y' e => by cases e; exact h0, fun a' x' y' e => by cases e; exact h1⟩

theorem arm_nil (a x y : Int) (w : World) : Calls Try.prog 29 #[.pointer none, .int .i64 a, .int .i64 x, .int .i64 y] w fun e w' => e = .returned (.tuple #[]) ∧ w' = w := by
  go_enter Try.func29, Try.ntmps29
  go_wp2
  go_returns
  exact ⟨rfl, rfl⟩

set_option maxHeartbeats 400000 in
theorem arm_any {w : World} {F : DF} {A : DK} (h : DiskAt w F A) (a x y : Int) (ha : a ≤ 9223372036854775807) : Calls Try.prog 29 #[dptr F, .int .i64 a, .int .i64 x, .int .i64 y] w (VPost F (A.armK a x y) w) := by
  obtain ⟨c0, c1, c2, c3, f0, f1, f2, f3, hd⟩ := h.head.four
  have H : Hid (DiskAt w F A) := h
  cases ho : A.off with
  | true =>
    rw [ho] at c2
    have HO : Hid (A.off = true) := ho
    clear h ho
    go_enter Try.func29, Try.ntmps29
    go_wp2
    go_returns
    refine ⟨rfl, ?_⟩
    rw [DK.armK, if_pos HO.out]
    exact .same H.out (Mod.refl _ _)
  | false =>
    rw [ho] at c2
    have HO : Hid (A.off = false) := ho
    clear h ho
    by_cases hp : 0 ≤ a
    · go_enter Try.func29, Try.ntmps29
      go_wp2
      go_returns
      refine ⟨rfl, ⟨F.d, F.sb, F.qv, some w.heap.size⟩, rfl, ?_, ?_, (((Mod.refl _ _).setCell (fun _ => .inl rfl) _).setCell (fun _ => .inl rfl) _).alloc _⟩
      · rintro k (hk | hk | hk | hk)
        · exact .inl (.inl hk)
        · exact .inl (.inr (.inl hk))
        · exact .inl (.inr (.inr (.inl hk)))
        · cases hk; exact .inr (Nat.le_refl _)
      · rw [DK.armK, if_neg (by rw [HO.out]; simp), if_pos hp]
        refine H.out.setArm hp ha (((H.out.head.set 3 _).set 3 _).alloc _) (by simpa using Bk.new ((w.setCell { block := F.d, off := 3 } (Value.pointer none)).setCell { block := F.d, off := 3 } (Value.pointer (some { block := w.heap.size, off := 0 }))) 76 [.int .i64 a, .int .i64 x, .int .i64 y]) ?_
        rintro k (hk | hk)
        · subst hk
          rw [Below.heap_alloc _ _ _ (by simpa using H.out.stable.lt), Below.heap_setCell _ _ _ _ (Ne.symm H.out.ne_sb), Below.heap_setCell _ _ _ _ (Ne.symm H.out.ne_sb)]
        · rw [Below.heap_alloc _ _ _ (by simpa using own_lt H.out.queue hk), Below.heap_setCell _ _ _ _ (H.out.ne_q hk).1, Below.heap_setCell _ _ _ _ (H.out.ne_q hk).1]
    · go_enter Try.func29, Try.ntmps29
      go_wp2
      go_returns
      refine ⟨rfl, ⟨F.d, F.sb, F.qv, none⟩, rfl, fun k hk => .inl (DF.again_has (.inl rfl) (.inr rfl) hk), ?_, (Mod.refl _ _).setCell (fun _ => .inl rfl) _⟩
      rw [DK.armK, if_neg (by rw [HO.out]; simp), if_neg (by omega)]
      refine H.out.again (H.out.stable.far (Ne.symm H.out.ne_sb) _) H.out.ok.len (.inl ⟨rfl, rfl⟩) (.inr ⟨rfl, rfl⟩) (H.out.head.set 3 _) ?_
      rintro k (hk | hk)
      · exact Below.heap_setCell _ _ _ _ (H.out.ne_q hk).1
      · exact Below.heap_setCell _ _ _ _ (H.out.ne_a hk).1

theorem raw_nil (w : World) : Calls Try.prog 31 #[.pointer none] w fun e w' => e = .returned (.string ByteArray.empty) ∧ w' = w := by
  go_enter Try.func31, Try.ntmps31
  go_wp2
  go_returns
  exact ⟨rfl, rfl⟩

/-- string(b) of bytes that lie in a row. -/
theorem run_string_row (w : World) (g off n c : Nat) (cur : List Value) (t : TypeId) (l : List UInt8) (hb : Bk w g t cur) (hl : l.length = n) (h : (cur.drop off).take n = u8s l) :
    (convert 56 9 (.slice (some ⟨g, off, none⟩) n c)).run Try.prog w = .ok (.string ⟨l.toArray⟩) w := by
  have hc : ∀ i, i < n → w.cell? ⟨g, off + i, none⟩ = some (.int .u8 ((l.map fun x => (x.toNat : Int)).getD i 0)) := by
    intro i hi
    rw [hb.cell (off + i)]
    have h1 : ((cur.drop off).take n)[i]? = cur[off + i]? := by rw [List.getElem?_take_of_lt hi, List.getElem?_drop]
    rw [← h1, h]
    have hil : i < l.length := by omega
    simp [u8s, hil]
  have hr := run_convert_bytes_arg (P := Try.prog) (w := w) (dst := 9) 56 5 Try.underlying56 Try.underlying5 g off n c (l.map fun x => (x.toNat : Int)) (by simpa using hl) hc Try.underlying9
  rw [hr]
  have e : strOfNums (l.map fun x => (x.toNat : Int)) = ⟨l.toArray⟩ := by
    have hid : ((fun n : Int => UInt8.ofNat n.toNat) ∘ fun x : UInt8 => (x.toNat : Int)) = id := by funext x; simp
    simp [strOfNums, hid]
  rw [e]

set_option maxHeartbeats 400000 in
theorem raw_any {w : World} {F : DF} {A : DK} (h : DiskAt w F A) : Calls Try.prog 31 #[dptr F] w fun e w' => e = .returned (.string ⟨A.st.toArray⟩) ∧ w' = w := by
  obtain ⟨c0, c1, c2, c3, f0, f1, f2, f3, hd⟩ := h.head.four
  have hr := run_string_row w F.sb 0 (A.n * 64) (A.n * 64) _ 5 A.st h.stable h.ok.len (by rw [List.drop_zero]; exact List.take_of_length_le (by rw [u8s_length, h.ok.len]; exact Nat.le_refl _))
  clear h
  obtain ⟨X, hX⟩ : ∃ X : ByteArray, X = ⟨A.st.toArray⟩ := ⟨_, rfl⟩
  rw [← hX] at hr ⊢
  clear hX
  go_enter Try.func31, Try.ntmps31
  go_wp2
  go_returns
  exact ⟨rfl, rfl⟩

set_option maxHeartbeats 400000 in
theorem rot_not {w : World} {F : DF} {A : DK} (h : DiskAt w F A) (s at_ m : Int) (hv : ¬ (0 ≤ s ∧ s < A.n ∧ 0 ≤ at_ ∧ at_ < 64 ∧ 0 < m ∧ m < 256)) :
    Calls Try.prog 30 #[dptr F, .int .i64 s, .int .i64 at_, .int .i64 m] w (VPost F A w) := by
  have H : Hid (DiskAt w F A) := h
  have hd := h.head.lt
  have HV : Hid (¬ (0 ≤ s ∧ s < A.n ∧ 0 ≤ at_ ∧ at_ < 64 ∧ 0 < m ∧ m < 256)) := hv
  by_cases hs : 0 ≤ s ∧ s < A.n
  · obtain ⟨i, rfl⟩ := Int.eq_ofNat_of_zero_le hs.1
    have hi : i < A.n := by omega
    clear h hs hv
    go_enter Try.func30, Try.ntmps30
    go_wp2_with fail
    refine (place_yes H.out i hi).mono ?_
    rintro e w' ⟨rfl, hm⟩
    have HM : Hid (Mod Nothing w w') := hm
    clear hm
    go_wp2
    all_goals first
      | (go_returns; exact ⟨rfl, DPost.same H.out (HM.out.alloc _)⟩)
      | (exfalso; have := HV.out; omega)
  · have hs' : s < 0 ∨ (A.n : Int) ≤ s := by omega
    have HS : Hid (s < 0 ∨ (A.n : Int) ≤ s) := hs'
    clear h hs hv hs'
    go_enter Try.func30, Try.ntmps30
    go_wp2_with fail
    refine (place_no H.out s HS.out).mono ?_
    rintro e w' ⟨rfl, hm⟩
    have HM : Hid (Mod Nothing w w') := hm
    clear hm
    go_wp2
    go_returns
    exact ⟨rfl, DPost.same H.out (HM.out.alloc _)⟩

theorem rot_nil (s at_ m : Int) (w : World) : Calls Try.prog 30 #[.pointer none, .int .i64 s, .int .i64 at_, .int .i64 m] w fun e w' => e = .returned (.tuple #[]) ∧ Mod Nothing w w' := by
  go_enter Try.func30, Try.ntmps30
  go_wp2_with fail
  refine (place_nil s _).mono ?_
  rintro e w' ⟨rfl, hm⟩
  have HM : Hid (Mod Nothing w w') := hm
  clear hm
  go_wp2
  go_returns
  exact ⟨rfl, HM.out.alloc _⟩

set_option maxRecDepth 100000 in
set_option maxHeartbeats 400000 in
theorem rot_yes {w : World} {F : DF} {A : DK} (h : DiskAt w F A) (i j m : Nat) (hi : i < A.n) (hj : j < 64) (hm0 : 0 < m) (hm1 : m < 256) :
    Calls Try.prog 30 #[dptr F, .int .i64 (i : Int), .int .i64 (j : Int), .int .i64 (m : Int)] w (VPost F { A with st := A.st.set (i * 64 + j) (A.st.getD (i * 64 + j) 0 ^^^ UInt8.ofNat m) } w) := by
  obtain ⟨c0, c1, c2, c3, f0, f1, f2, f3, hd⟩ := h.head.four
  have H : Hid (DiskAt w F A) := h
  have hn := h.ok.top
  have hlt : i * 64 + j < A.n * 64 := by omega
  have cb := h.stable.cell (i * 64 + j)
  have hb : (u8s A.st)[i * 64 + j]? = some (.int .u8 ((A.st.getD (i * 64 + j) 0).toNat : Int)) := by
    have : i * 64 + j < A.st.length := by rw [h.ok.len]; exact hlt
    simp [u8s, this]
  rw [hb] at cb
  have fb := h.stable.frozen (i * 64 + j)
  have hsb := h.stable.lt
  obtain ⟨x, hx⟩ : ∃ x, x = A.st.getD (i * 64 + j) 0 := ⟨_, rfl⟩
  rw [← hx] at cb ⊢
  clear h hb hx
  have a1 : (0 : Int) ≤ (i : Int) * 64 + j := by omega
  have a2 : (i : Int) * 64 + j < A.n * 64 := by omega
  have a3 : ((i : Int) * 64 + j).toNat = i * 64 + j := by omega
  go_enter Try.func30, Try.ntmps30
  go_wp2_with fail
  refine (place_yes H.out i hi).mono ?_
  rintro e w' ⟨rfl, hm⟩
  have HM : Hid (Mod Nothing w w') := hm
  have e0 : w'.cell? ⟨F.d, 0, none⟩ = _ := (hm.cell (p := ⟨F.d, 0, none⟩) hd id).trans c0
  have eb : w'.cell? ⟨F.sb, i * 64 + j, none⟩ = _ := (hm.cell (p := ⟨F.sb, i * 64 + j, none⟩) hsb id).trans cb
  have gb : w'.frozen? ⟨F.sb, i * 64 + j, none⟩ = _ := (hm.frozen (p := ⟨F.sb, i * 64 + j, none⟩) hsb id).trans fb
  have hd' : F.d < w'.heap.size := Nat.lt_of_lt_of_le hd hm.size
  have hsb' : F.sb < w'.heap.size := Nat.lt_of_lt_of_le hsb hm.size
  have EB := hid_ eb
  have GB := hid_ gb
  have A1 := hid_ a1
  have A2 := hid_ a2
  have A3 := hid_ a3
  clear hm c0 c1 c2 c3 f0 f1 f2 f3 cb fb a1 a2 a3 eb gb
  go_wp2
  have a1 := A1.out
  have a2 := A2.out
  have a3 := A3.out
  have eb := EB.out
  have gb := GB.out
  have a4 : IntKind.i64.wrap ((i : Int) * 64 + j) = (i : Int) * 64 + j := IntWalk.i64_in _ (by omega)
  have a5 : IntKind.u8.wrap (m : Int) = m := IntWalk.u8_in _ (by omega)
  refine still_tail 14 (by kernel_rfl) (by kernel_rfl) ?_
  simp only [List.take_succ_cons, List.take_zero, List.drop_succ_cons, List.drop_zero]
  repeat still_step
  refine wpStill_nil ?_
  clear a1 a2 a3 a4 a5
  go_wp2
  go_returns
  have hx : bits BinOp.xor IntKind.u8 (x.toNat : Int) (m : Int) = ((x ^^^ UInt8.ofNat m).toNat : Int) := by
    rw [u8_xor_nat _ _ x.toNat_lt hm1]; simp [Nat.mod_eq_of_lt hm1]
  rw [hx]
  have hset : u8s (A.st.set (i * 64 + j) (x ^^^ UInt8.ofNat m)) = (u8s A.st).set (i * 64 + j) (.int .u8 ((x ^^^ UInt8.ofNat m).toNat : Int)) := by simp [u8s]
  have h' : DiskAt w' F A := H.out.mod HM.out (fun _ _ => id)
  refine ⟨rfl, F, rfl, fun k hk => .inl hk, ?_, ((HM.out.mono (fun _ _ => False.elim)).setCell (fun _ => .inr (.inl rfl)) _ |>.alloc _).drew⟩
  have hW : ∀ k, k < w'.heap.size → ((w'.setCell ⟨F.sb, i * 64 + j, none⟩ (.int .u8 ((x ^^^ UInt8.ofNat m).toNat : Int))).alloc (Obj.cells #[Value.int IntKind.i64 (↑i * 64), Value.int IntKind.i64 ((↑i + 1) * 64)] 66)).drew.heap[k]? = (w'.setCell ⟨F.sb, i * 64 + j, none⟩ (.int .u8 ((x ^^^ UInt8.ofNat m).toNat : Int))).heap[k]? := by
    intro k hl
    rw [heap_drew, Below.heap_alloc _ _ _ (by simpa using hl)]
  have hfar : ∀ k, k < w'.heap.size → k ≠ F.sb → ((w'.setCell ⟨F.sb, i * 64 + j, none⟩ (.int .u8 ((x ^^^ UInt8.ofNat m).toNat : Int))).alloc (Obj.cells #[Value.int IntKind.i64 (↑i * 64), Value.int IntKind.i64 ((↑i + 1) * 64)] 66)).drew.heap[k]? = w'.heap[k]? := by
    intro k hl hk
    rw [hW k hl, Below.heap_setCell _ _ _ _ hk]
  refine h'.again (off' := A.off) ?_ (by simpa using h'.ok.len) (.inl ⟨rfl, rfl⟩) (.inl ⟨rfl, rfl⟩) ?_ ?_
  · rw [hset]; exact (hW _ h'.stable.lt).trans (h'.stable.set _ _)
  · exact (hfar _ h'.head.lt h'.ne_sb).trans h'.head
  rintro k (hk | hk)
  · exact hfar k (own_lt h'.queue hk) (h'.ne_q hk).2
  · exact hfar k (h'.lt (.inr (.inr (.inr hk)))) (h'.ne_a hk).2.1

theorem rot_any {w : World} {F : DF} {A : DK} (h : DiskAt w F A) (s at_ m : Int) : Calls Try.prog 30 #[dptr F, .int .i64 s, .int .i64 at_, .int .i64 m] w (VPost F (A.rot s at_ m) w) := by
  by_cases hv : 0 ≤ s ∧ s < A.n ∧ 0 ≤ at_ ∧ at_ < 64 ∧ 0 < m ∧ m < 256
  · have e : A.rot s at_ m = { A with st := A.st.set (s * 64 + at_).toNat ((A.st.getD (s * 64 + at_).toNat 0) ^^^ UInt8.ofNat m.toNat) } := by rw [DK.rot, if_pos hv]
    obtain ⟨h0, h1, h2, h3, h4, h5⟩ := hv
    obtain ⟨i, rfl⟩ := Int.eq_ofNat_of_zero_le h0
    obtain ⟨j, rfl⟩ := Int.eq_ofNat_of_zero_le h2
    obtain ⟨k, rfl⟩ := Int.eq_ofNat_of_zero_le (Int.le_of_lt h4)
    rw [e, show ((i : Int) * 64 + (j : Int)).toNat = i * 64 + j by omega, show (k : Int).toNat = k by omega]
    exact rot_yes h i j k (by omega) (by omega) (by omega) (by omega)
  · rw [DK.rot, if_neg hv]
    exact rot_not h s at_ m hv

end Go.Proofs.Ytbioeeccbcaljaa
