/- A disk that lies from block B on: the methods once more, in that form. -/
import Derived.Test.YtbioeeccbcaljaaB4
set_option linter.unusedVariables false
set_option linter.unusedSimpArgs false
namespace Go.Proofs.Ytbioeeccbcaljaa
open Go.RowKit

abbrev ptr (d : Nat) : Value := .pointer (some ⟨d, 0, none⟩)

/-- A disk at block d, all of it from block B on. -/
def DiskB (w : World) (d B : Nat) (A : DK) : Prop := ∃ F : DF, F.d = d ∧ DiskAt w F A ∧ ∀ k, F.has k → B ≤ k

def From (B k : Nat) : Prop := B ≤ k

theorem DPost.toB {w w' : World} {F : DF} {A' : DK} {B : Nat} (h : DPost F w A' w') (hF : ∀ k, F.has k → B ≤ k) (hB : B ≤ w.heap.size) : DiskB w' F.d B A' ∧ Mod (From B) w w' := by
  obtain ⟨F', hd, hs, hD, hm⟩ := h
  refine ⟨⟨F', hd, hD, fun k hk => ?_⟩, hm.mono (fun i _ hi => hF i hi)⟩
  rcases hs k hk with h | h
  · exact hF k h
  · omega

theorem DiskB.mod {w w' : World} {d B : Nat} {A : DK} (h : DiskB w d B A) (hm : Mod Nothing w w') : DiskB w' d B A := by
  obtain ⟨F, hd, hD, hF⟩ := h
  exact ⟨F, hd, hD.mod hm (fun _ _ => id), hF⟩
theorem DiskB.drew {w : World} {d B : Nat} {A : DK} (h : DiskB w d B A) : DiskB w.drew d B A := h.mod ((Mod.refl _ _).drew)
theorem DiskB.drewN {w : World} {d B : Nat} {A : DK} (h : DiskB w d B A) (n : Nat) : DiskB (w.drewN n) d B A := h.mod ((Mod.refl _ _).drewN n)
theorem DiskB.alloc {w : World} {d B : Nat} {A : DK} (h : DiskB w d B A) (o : Obj) : DiskB (w.alloc o) d B A := h.mod ((Mod.refl _ _).alloc o)
theorem DiskB.ok {w : World} {d B : Nat} {A : DK} (h : DiskB w d B A) : A.Ok := by obtain ⟨F, _, hD, _⟩ := h; exact hD.ok

def IB (d B : Nat) (r : Int × DK) (w : World) (e : Ending) (w' : World) : Prop := e = .returned (.int .i64 r.1) ∧ DiskB w' d B r.2 ∧ Mod (From B) w w'
def VB (d B : Nat) (A' : DK) (w : World) (e : Ending) (w' : World) : Prop := e = .returned (.tuple #[]) ∧ DiskB w' d B A' ∧ Mod (From B) w w'
def AB (d B : Nat) (r : (ByteArray × Int) × DK) (w : World) (e : Ending) (w' : World) : Prop := e = .returned (.tuple #[.string r.1.1, .int .i64 r.1.2]) ∧ DiskB w' d B r.2 ∧ Mod (From B) w w'

section
variable {w : World} {d B : Nat} {A : DK}

theorem newB (n : Nat) (w : World) (h1 : 1 ≤ n) (h2 : n ≤ 8000) (hB : B ≤ w.heap.size) : Calls Try.prog 13 #[.int .i64 (n : Int)] w fun e w' => ∃ d, e = .returned (ptr d) ∧ DiskB w' d B (DK.new n) ∧ Mod Nothing w w' := by
  refine (new_any n w h1 h2).mono ?_
  rintro e w' ⟨F, rfl, hF, hD, hm⟩
  exact ⟨F.d, rfl, ⟨F, rfl, hD, fun k hk => Nat.le_trans hB (hF k hk)⟩, hm⟩

theorem writeB (h : DiskB w d B A) (hB : B ≤ w.heap.size) (s : Int) (t : ByteArray) (hfew : A.q.length < 1000000) : Calls Try.prog 23 #[ptr d, .int .i64 s, .string t] w (IB d B (A.write s t) w) := by
  obtain ⟨F, rfl, hD, hF⟩ := h
  exact (write_any hD s t hfew).mono fun e w' ⟨he, hp⟩ => ⟨he, hp.toB hF hB⟩
theorem syncB (h : DiskB w d B A) (hB : B ≤ w.heap.size) : Calls Try.prog 21 #[ptr d] w (IB d B A.sync w) := by
  obtain ⟨F, rfl, hD, hF⟩ := h
  exact (sync_any hD).mono fun e w' ⟨he, hp⟩ => ⟨he, hp.toB hF hB⟩
theorem failB (h : DiskB w d B A) (hB : B ≤ w.heap.size) (x y : Int) : Calls Try.prog 25 #[ptr d, .int .i64 x, .int .i64 y] w (VB d B (A.cut x y) w) := by
  obtain ⟨F, rfl, hD, hF⟩ := h
  exact (fail_any hD x y).mono fun e w' ⟨he, hp⟩ => ⟨he, hp.toB hF hB⟩
theorem startB (h : DiskB w d B A) (hB : B ≤ w.heap.size) : Calls Try.prog 20 #[ptr d] w (VB d B A.start w) := by
  obtain ⟨F, rfl, hD, hF⟩ := h
  exact (start_any hD).mono fun e w' ⟨he, hp⟩ => ⟨he, hp.toB hF hB⟩
theorem armB (h : DiskB w d B A) (hB : B ≤ w.heap.size) (a x y : Int) (ha : a ≤ 9223372036854775807) : Calls Try.prog 29 #[ptr d, .int .i64 a, .int .i64 x, .int .i64 y] w (VB d B (A.armK a x y) w) := by
  obtain ⟨F, rfl, hD, hF⟩ := h
  exact (arm_any hD a x y ha).mono fun e w' ⟨he, hp⟩ => ⟨he, hp.toB hF hB⟩
theorem rotB (h : DiskB w d B A) (hB : B ≤ w.heap.size) (a x y : Int) : Calls Try.prog 30 #[ptr d, .int .i64 a, .int .i64 x, .int .i64 y] w (VB d B (A.rot a x y) w) := by
  obtain ⟨F, rfl, hD, hF⟩ := h
  exact (rot_any hD a x y).mono fun e w' ⟨he, hp⟩ => ⟨he, hp.toB hF hB⟩
theorem readB (h : DiskB w d B A) (s : Int) : Calls Try.prog 18 #[ptr d, .int .i64 s] w (RPost (A.read s) w) := by
  obtain ⟨F, rfl, hD, hF⟩ := h
  exact read_any hD s
theorem rawB (h : DiskB w d B A) : Calls Try.prog 31 #[ptr d] w fun e w' => e = .returned (.string ⟨A.st.toArray⟩) ∧ w' = w := by
  obtain ⟨F, rfl, hD, hF⟩ := h
  exact raw_any hD
theorem contentsB (h : DiskB w d B A) (ho : A.off = false) : Calls Try.prog 22 #[ptr d, .int .i64 (A.n : Int)] w (ContentsPost A w) := by
  obtain ⟨F, rfl, hD, hF⟩ := h
  exact contents_on hD ho
theorem doB (h : DiskB w d B A) (hB : B ≤ w.heap.size) (a : Ac) (ht : a.text.size ≤ 1000) (ha : a.after ≤ 9223372036854775807) (hfew : A.q.length < 1000000) : Calls Try.prog 16 #[ptr d, a.val] w (AB d B (A.act a) w) := by
  obtain ⟨F, rfl, hD, hF⟩ := h
  exact (do_any hD a ht ha hfew).mono fun e w' ⟨he, hp⟩ => ⟨he, hp.toB hF hB⟩
end

end Go.Proofs.Ytbioeeccbcaljaa
