/- do: one operation on a disk. -/
import Derived.Test.YtbioeeccbcaljaaB3
import Derived.Deep.RegionWith
set_option linter.unusedVariables false
set_option linter.unusedSimpArgs false
namespace Go.Proofs.Ytbioeeccbcaljaa
open Go.RowKit

def DK.act (A : DK) (a : Ac) : (ByteArray × Int) × DK :=
  if a.kind = 0 then ((⟨#[]⟩, (A.write a.sector a.txt).1), (A.write a.sector a.txt).2)
  else if a.kind = 1 then (A.read a.sector, A)
  else if a.kind = 2 then ((⟨#[]⟩, A.sync.1), A.sync.2)
  else if a.kind = 3 then ((⟨#[]⟩, 0), A.cut a.sector a.bytes)
  else if a.kind = 4 then ((⟨#[]⟩, 0), A.start)
  else if a.kind = 5 then ((⟨#[]⟩, 0), A.armK a.after a.sector a.bytes)
  else if a.kind = 6 then ((⟨#[]⟩, 0), A.rot a.sector a.bytes a.after)
  else if a.kind = 7 then ((⟨A.st.toArray⟩, 0), A)
  else ((⟨#[]⟩, 0), A)

/-- A text and a number come back, and the disk is what it is then. -/
def ActPost (F : DF) (r : (ByteArray × Int) × DK) (w : World) (e : Ending) (w' : World) : Prop := e = .returned (.tuple #[.string r.1.1, .int .i64 r.1.2]) ∧ DPost F w r.2 w'

theorem DPost.late {w w1 w' : World} {F : DF} {A A' : DK} (hm : Mod Nothing w w1) (h : DPost F w1 A' w') : DPost F w A' w' :=
  DPost.trans rfl (fun _ h => .inl h) (hm.mono (fun _ _ => False.elim)) h

set_option maxHeartbeats 1000000 in
theorem do_sync {w : World} {F : DF} {A : DK} (h : DiskAt w F A) (a : Ac) (hk : a.kind = 2) : Calls Try.prog 16 #[dptr F, a.val] w (ActPost F (A.act a) w) := by
  have H := hid_ h
  obtain ⟨kind, sector, bytes, text, odd, after⟩ := a
  simp only at hk
  subst hk
  clear h
  go_enter Try.func16, Try.ntmps16
  go_wp2_with fail
  refine (sync_any (H.out.keep fun k hk => Below.heap_alloc _ _ _ (H.out.lt hk))).mono ?_
  rintro e w1 ⟨rfl, hp⟩
  have HP := hid_ hp
  clear hp
  go_wp2
  go_returns
  exact ⟨rfl, DPost.late (A := A) ((Mod.refl _ _).alloc _) HP.out⟩

set_option maxHeartbeats 1000000 in
theorem do_fail {w : World} {F : DF} {A : DK} (h : DiskAt w F A) (a : Ac) (hk : a.kind = 3) : Calls Try.prog 16 #[dptr F, a.val] w (ActPost F (A.act a) w) := by
  have H := hid_ h
  obtain ⟨kind, sector, bytes, text, odd, after⟩ := a
  simp only at hk
  subst hk
  clear h
  go_enter Try.func16, Try.ntmps16
  go_wp2_with fail
  refine (fail_any (H.out.keep fun k hk => Below.heap_alloc _ _ _ (H.out.lt hk)) _ _).mono ?_
  rintro e w1 ⟨rfl, hp⟩
  have HP := hid_ hp
  clear hp
  go_wp2
  go_returns
  exact ⟨rfl, DPost.late (A := A) ((Mod.refl _ _).alloc _) HP.out⟩

set_option maxHeartbeats 1000000 in
theorem do_start {w : World} {F : DF} {A : DK} (h : DiskAt w F A) (a : Ac) (hk : a.kind = 4) : Calls Try.prog 16 #[dptr F, a.val] w (ActPost F (A.act a) w) := by
  have H := hid_ h
  obtain ⟨kind, sector, bytes, text, odd, after⟩ := a
  simp only at hk
  subst hk
  clear h
  go_enter Try.func16, Try.ntmps16
  go_wp2_with fail
  refine (start_any (H.out.keep fun k hk => Below.heap_alloc _ _ _ (H.out.lt hk))).mono ?_
  rintro e w1 ⟨rfl, hp⟩
  have HP := hid_ hp
  clear hp
  go_wp2
  go_returns
  exact ⟨rfl, DPost.late (A := A) ((Mod.refl _ _).alloc _) HP.out⟩

set_option maxHeartbeats 1000000 in
theorem do_arm {w : World} {F : DF} {A : DK} (h : DiskAt w F A) (a : Ac) (hk : a.kind = 5) (ha : a.after ≤ 9223372036854775807) : Calls Try.prog 16 #[dptr F, a.val] w (ActPost F (A.act a) w) := by
  have H := hid_ h
  obtain ⟨kind, sector, bytes, text, odd, after⟩ := a
  simp only at hk ha
  subst hk
  clear h
  go_enter Try.func16, Try.ntmps16
  go_wp2_with fail
  refine (arm_any (H.out.keep fun k hk => Below.heap_alloc _ _ _ (H.out.lt hk)) _ _ _ ha).mono ?_
  rintro e w1 ⟨rfl, hp⟩
  have HP := hid_ hp
  clear hp
  go_wp2
  go_returns
  exact ⟨rfl, DPost.late (A := A) ((Mod.refl _ _).alloc _) HP.out⟩

set_option maxHeartbeats 1000000 in
theorem do_rot {w : World} {F : DF} {A : DK} (h : DiskAt w F A) (a : Ac) (hk : a.kind = 6) : Calls Try.prog 16 #[dptr F, a.val] w (ActPost F (A.act a) w) := by
  have H := hid_ h
  obtain ⟨kind, sector, bytes, text, odd, after⟩ := a
  simp only at hk
  subst hk
  clear h
  go_enter Try.func16, Try.ntmps16
  go_wp2_with fail
  refine (rot_any (H.out.keep fun k hk => Below.heap_alloc _ _ _ (H.out.lt hk)) _ _ _).mono ?_
  rintro e w1 ⟨rfl, hp⟩
  have HP := hid_ hp
  clear hp
  go_wp2
  go_returns
  exact ⟨rfl, DPost.late (A := A) ((Mod.refl _ _).alloc _) HP.out⟩

set_option maxHeartbeats 1000000 in
theorem do_read {w : World} {F : DF} {A : DK} (h : DiskAt w F A) (a : Ac) (hk : a.kind = 1) : Calls Try.prog 16 #[dptr F, a.val] w (ActPost F (A.act a) w) := by
  have H := hid_ h
  obtain ⟨kind, sector, bytes, text, odd, after⟩ := a
  simp only at hk
  subst hk
  clear h
  go_enter Try.func16, Try.ntmps16
  go_wp2_with fail
  refine (read_any (H.out.keep fun k hk => Below.heap_alloc _ _ _ (H.out.lt hk)) _).mono ?_
  rintro e w1 ⟨rfl, hm⟩
  have HM := hid_ hm
  clear hm
  go_wp2
  go_returns
  exact ⟨rfl, DPost.same H.out (((Mod.refl _ _).alloc _).trans HM.out (fun _ _ h => h))⟩

set_option maxHeartbeats 1000000 in
theorem do_raw {w : World} {F : DF} {A : DK} (h : DiskAt w F A) (a : Ac) (hk : a.kind = 7) : Calls Try.prog 16 #[dptr F, a.val] w (ActPost F (A.act a) w) := by
  have H := hid_ h
  obtain ⟨kind, sector, bytes, text, odd, after⟩ := a
  simp only at hk
  subst hk
  clear h
  go_enter Try.func16, Try.ntmps16
  go_wp2_with fail
  refine (raw_any (H.out.keep fun k hk => Below.heap_alloc _ _ _ (H.out.lt hk))).mono ?_
  rintro e w1 ⟨rfl, rfl⟩
  go_wp2
  go_returns
  exact ⟨rfl, DPost.same H.out ((Mod.refl _ _).alloc _)⟩

set_option maxHeartbeats 1000000 in
theorem do_other {w : World} {F : DF} {A : DK} (h : DiskAt w F A) (a : Ac) (h0 : a.kind ≠ 0) (h1 : a.kind ≠ 1) (h2 : a.kind ≠ 2) (h3 : a.kind ≠ 3) (h4 : a.kind ≠ 4) (h5 : a.kind ≠ 5) (h6 : a.kind ≠ 6) (h7 : a.kind ≠ 7) :
    Calls Try.prog 16 #[dptr F, a.val] w (ActPost F (A.act a) w) := by
  have H := hid_ h
  have HE := hid_ (show A.act a = ((⟨#[]⟩, 0), A) by simp [DK.act, *])
  obtain ⟨kind, sector, bytes, text, odd, after⟩ := a
  simp only at h0 h1 h2 h3 h4 h5 h6 h7
  have k0 : (kind == 0) = false := beq_eq_false_iff_ne.2 h0
  have k1 : (kind == 1) = false := beq_eq_false_iff_ne.2 h1
  have k2 : (kind == 2) = false := beq_eq_false_iff_ne.2 h2
  have k3 : (kind == 3) = false := beq_eq_false_iff_ne.2 h3
  have k4 : (kind == 4) = false := beq_eq_false_iff_ne.2 h4
  have k5 : (kind == 5) = false := beq_eq_false_iff_ne.2 h5
  have k6 : (kind == 6) = false := beq_eq_false_iff_ne.2 h6
  have k7 : (kind == 7) = false := beq_eq_false_iff_ne.2 h7
  clear h h0 h1 h2 h3 h4 h5 h6 h7
  go_enter Try.func16, Try.ntmps16
  go_wp2
  go_returns
  rw [HE.out]
  exact ⟨rfl, DPost.same H.out ((Mod.refl _ _).alloc _)⟩

set_option maxHeartbeats 2000000 in
theorem do_write {w : World} {F : DF} {A : DK} (h : DiskAt w F A) (a : Ac) (hk : a.kind = 0) (ht : a.text.size ≤ 1000) (hfew : A.q.length < 1000000) : Calls Try.prog 16 #[dptr F, a.val] w (ActPost F (A.act a) w) := by
  have H := hid_ h
  have HE := hid_ (show A.act a = ((⟨#[]⟩, (A.write a.sector a.txt).1), (A.write a.sector a.txt).2) by rw [DK.act, if_pos hk])
  obtain ⟨X, hX⟩ : ∃ X, X = a.txt := ⟨_, rfl⟩
  have hcall : ∀ w, Calls Try.prog 24 #[a.val] w (TextPost X w) := fun w => by rw [hX]; exact text_any a w ht
  rw [← hX] at HE
  have HC := hid_ hcall
  obtain ⟨kind, sector, bytes, text, odd, after⟩ := a
  simp only at hk
  subst hk
  clear h hX hcall ht
  go_enter Try.func16, Try.ntmps16
  go_wp2_with fail
  go_region_with (first
    | (go_at_call 24; refine (HC.out _).mono ?_; rintro e w1 ⟨rfl, hm1⟩; have c1 := (hm1.bk (Bk.new w 34 [.int .i64 0, .int .i64 sector, .int .i64 bytes, .string text, .bool odd, .int .i64 after]) id).cell 1; have HM1 := hid_ hm1; clear hm1)
    | (go_at_call 23; refine (write_any (A := A) (F := F) (H.out.mod ((((Mod.refl _ _).alloc _).drew).trans HM1.out (fun _ _ h => h)) (fun _ _ => id)) _ _ hfew).mono ?_; rintro e w2 ⟨rfl, hp⟩; have HP := hid_ hp; clear hp))
  all_goals
    go_wp2
    go_returns
    rw [HE.out]
    exact ⟨rfl, DPost.late (A := A) ((((Mod.refl _ _).alloc _).drew).trans HM1.out (fun _ _ h => h)) HP.out⟩

theorem do_any {w : World} {F : DF} {A : DK} (h : DiskAt w F A) (a : Ac) (ht : a.text.size ≤ 1000) (ha : a.after ≤ 9223372036854775807) (hfew : A.q.length < 1000000) : Calls Try.prog 16 #[dptr F, a.val] w (ActPost F (A.act a) w) := by
  by_cases h0 : a.kind = 0
  · exact do_write h a h0 ht hfew
  by_cases h1 : a.kind = 1
  · exact do_read h a h1
  by_cases h2 : a.kind = 2
  · exact do_sync h a h2
  by_cases h3 : a.kind = 3
  · exact do_fail h a h3
  by_cases h4 : a.kind = 4
  · exact do_start h a h4
  by_cases h5 : a.kind = 5
  · exact do_arm h a h5 ha
  by_cases h6 : a.kind = 6
  · exact do_rot h a h6
  by_cases h7 : a.kind = 7
  · exact do_raw h a h7
  exact do_other h a h0 h1 h2 h3 h4 h5 h6 h7

/-! ### Sizes -/
theorem DK.cut_n (A : DK) (x y : Int) : (A.cut x y).n = A.n := by unfold DK.cut; split <;> rfl
theorem DK.cut_q (A : DK) (x y : Int) : (A.cut x y).q.length ≤ A.q.length := by unfold DK.cut; split <;> simp
theorem DK.count_n (A : DK) : A.count.2.n = A.n := by unfold DK.count; split <;> (try split) <;> (try rfl); exact A.cut_n _ _
theorem DK.count_q (A : DK) : A.count.2.q.length ≤ A.q.length := by
  unfold DK.count
  split
  · exact Nat.le_refl _
  · split
    · exact Nat.le_refl _
    · exact A.cut_q _ _
theorem DK.write_n (A : DK) (s : Int) (t : ByteArray) : (A.write s t).2.n = A.n := by
  unfold DK.write
  split
  · rfl
  split
  · split
    · rw [DK.count_n]; rfl
    · rfl
  · rfl
theorem DK.write_q (A : DK) (s : Int) (t : ByteArray) : (A.write s t).2.q.length ≤ A.q.length + 1 := by
  unfold DK.write
  split
  · exact Nat.le_succ _
  split
  · split
    · have := (A.push s.toNat t).count_q
      simp [DK.push] at this ⊢; exact this
    · exact Nat.le_succ _
  · exact Nat.le_succ _
theorem DK.sync_n (A : DK) : A.sync.2.n = A.n := by
  unfold DK.sync
  split
  · rfl
  · split
    · exact A.count_n
    · exact A.count_n
theorem DK.sync_q (A : DK) : A.sync.2.q.length ≤ A.q.length := by
  unfold DK.sync
  split
  · exact Nat.le_refl _
  · split
    · simp
    · exact A.count_q
theorem DK.rot_n (A : DK) (s a m : Int) : (A.rot s a m).n = A.n := by unfold DK.rot; split <;> rfl
theorem DK.rot_q (A : DK) (s a m : Int) : (A.rot s a m).q = A.q := by unfold DK.rot; split <;> rfl
theorem DK.armK_n (A : DK) (a x y : Int) : (A.armK a x y).n = A.n := by unfold DK.armK; split <;> rfl
theorem DK.armK_q (A : DK) (a x y : Int) : (A.armK a x y).q = A.q := by unfold DK.armK; split <;> rfl

theorem DK.act_n (A : DK) (a : Ac) : (A.act a).2.n = A.n := by
  unfold DK.act
  repeat' split
  all_goals first | rfl | exact A.write_n _ _ | exact A.sync_n | exact A.cut_n _ _ | exact A.armK_n _ _ _ | exact A.rot_n _ _ _
theorem DK.act_q (A : DK) (a : Ac) : (A.act a).2.q.length ≤ A.q.length + 1 := by
  unfold DK.act
  repeat' split
  all_goals first
    | exact Nat.le_succ _
    | exact A.write_q _ _
    | exact Nat.le_succ_of_le A.sync_q
    | exact Nat.le_succ_of_le (A.cut_q _ _)
    | (rw [A.armK_q]; exact Nat.le_succ _)
    | (rw [A.rot_q]; exact Nat.le_succ _)

/-- A list of operations. -/
def DK.acts (A : DK) (l : List Ac) : DK := l.foldl (fun A a => (A.act a).2) A
theorem DK.acts_snoc (A : DK) (l : List Ac) (k : Nat) (a : Ac) (h : l[k]? = some a) : A.acts (l.take (k + 1)) = ((A.acts (l.take k)).act a).2 := by
  rw [List.take_add_one, h]; simp [DK.acts]
theorem DK.acts_n : ∀ (l : List Ac) (A : DK), (A.acts l).n = A.n
  | [], _ => rfl
  | a :: l, A => (DK.acts_n l (A.act a).2).trans (A.act_n a)
theorem DK.acts_q : ∀ (l : List Ac) (A : DK), (A.acts l).q.length ≤ A.q.length + l.length
  | [], _ => Nat.le_refl _
  | a :: l, A => by
    have h1 := DK.acts_q l (A.act a).2
    have h2 := A.act_q a
    show ((A.act a).2.acts l).q.length ≤ _
    simp only [List.length_cons]
    omega

end Go.Proofs.Ytbioeeccbcaljaa
