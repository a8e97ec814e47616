/- Two things side by side in memory; a disk that may write only to some blocks. -/
import Derived.Test.YtbioeeccbcaljaaC0
set_option linter.unusedVariables false
set_option linter.unusedSimpArgs false
namespace Go.Proofs.Ytbioeeccbcaljaa
open Go.RowKit

/-! ### Two disks -/
def Two (N : Nat) (da db : Nat) (A C : DK) (w : World) : Prop :=
  ∃ Fa Fb : DF, Fa.d = da ∧ Fb.d = db ∧ DiskAt w Fa A ∧ DiskAt w Fb C ∧ (∀ k, Fa.has k → ¬ Fb.has k) ∧ (∀ k, Fa.has k → N ≤ k) ∧ (∀ k, Fb.has k → N ≤ k)

section
variable {N da db : Nat} {A C : DK} {w : World}

theorem Two.left (h : Two N da db A C w) (hN : N ≤ w.heap.size) : ∃ Fa : DF, Fa.d = da ∧ DiskAt w Fa A ∧ ∀ A' w', DPost Fa w A' w' → Two N da db A' C w' ∧ Mod (From N) w w' := by
  obtain ⟨Fa, Fb, ha, hb, hA, hC, hs, h1, h2⟩ := h
  refine ⟨Fa, ha, hA, fun A' w' ⟨F', e, hs', hD, hm⟩ => ⟨⟨F', Fb, e.trans ha, hb, hD, hC.mod hm (fun k hk hk' => hs k hk' hk), fun k hk hk' => ?_, fun k hk => ?_, h2⟩, hm.mono (fun i _ hi => h1 i hi)⟩⟩
  · rcases hs' k hk with h | h
    · exact hs k h hk'
    · have := hC.lt hk'; omega
  · rcases hs' k hk with h | h
    · exact h1 k h
    · omega

theorem Two.right (h : Two N da db A C w) (hN : N ≤ w.heap.size) : ∃ Fb : DF, Fb.d = db ∧ DiskAt w Fb C ∧ ∀ C' w', DPost Fb w C' w' → Two N da db A C' w' ∧ Mod (From N) w w' := by
  obtain ⟨Fa, Fb, ha, hb, hA, hC, hs, h1, h2⟩ := h
  refine ⟨Fb, hb, hC, fun C' w' ⟨F', e, hs', hD, hm⟩ => ⟨⟨Fa, F', ha, e.trans hb, hA.mod hm (fun k hk => hs k hk), hD, fun k hk hk' => ?_, h1, fun k hk => ?_⟩, hm.mono (fun i _ hi => h2 i hi)⟩⟩
  · rcases hs' k hk' with h | h
    · exact hs k hk h
    · have := hA.lt hk; omega
  · rcases hs' k hk with h | h
    · exact h2 k h
    · omega

theorem Two.mod {w' : World} (h : Two N da db A C w) (hm : Mod Nothing w w') : Two N da db A C w' := by
  obtain ⟨Fa, Fb, ha, hb, hA, hC, hs, h1, h2⟩ := h
  exact ⟨Fa, Fb, ha, hb, hA.mod hm (fun _ _ => id), hC.mod hm (fun _ _ => id), hs, h1, h2⟩

theorem Two.news {w0 : World} {Fa Fb : DF} (hA : DiskAt w0 Fa A) (h1 : ∀ k, Fa.has k → N ≤ k) (hC : DiskAt w Fb C) (h2 : ∀ k, Fb.has k → w0.heap.size ≤ k) (hm : Mod Nothing w0 w) (hN : N ≤ w0.heap.size) : Two N Fa.d Fb.d A C w :=
  ⟨Fa, Fb, rfl, rfl, hA.mod hm (fun _ _ => id), hC, fun k hk hk' => by have := hA.lt hk; have := h2 k hk'; omega, h1, fun k hk => Nat.le_trans hN (h2 k hk)⟩

theorem Two.okA (h : Two N da db A C w) : A.Ok := by obtain ⟨Fa, Fb, _, _, hA, _⟩ := h; exact hA.ok
theorem Two.okC (h : Two N da db A C w) : C.Ok := by obtain ⟨Fa, Fb, _, _, _, hC, _⟩ := h; exact hC.ok

/-- What a call on one of the two leaves. -/
def TV (N da db : Nat) (A C : DK) (w : World) (e : Ending) (w' : World) : Prop := e = .returned (.tuple #[]) ∧ Two N da db A C w' ∧ Mod (From N) w w'
def TI (N da db : Nat) (r : Int) (A C : DK) (w : World) (e : Ending) (w' : World) : Prop := e = .returned (.int .i64 r) ∧ Two N da db A C w' ∧ Mod (From N) w w'
def TA (N da db : Nat) (r : ByteArray × Int) (A C : DK) (w : World) (e : Ending) (w' : World) : Prop := e = .returned (.tuple #[.string r.1, .int .i64 r.2]) ∧ Two N da db A C w' ∧ Mod (From N) w w'

variable (h : Two N da db A C w) (hN : N ≤ w.heap.size)
include h hN
theorem startL : Calls Try.prog 20 #[ptr da] w (TV N da db A.start C w) := by
  obtain ⟨F, rfl, hD, hk⟩ := h.left hN
  exact (start_any hD).mono fun e w' ⟨he, hp⟩ => ⟨he, hk _ _ hp⟩
theorem startR : Calls Try.prog 20 #[ptr db] w (TV N da db A C.start w) := by
  obtain ⟨F, rfl, hD, hk⟩ := h.right hN
  exact (start_any hD).mono fun e w' ⟨he, hp⟩ => ⟨he, hk _ _ hp⟩
theorem failL (x y : Int) : Calls Try.prog 25 #[ptr da, .int .i64 x, .int .i64 y] w (TV N da db (A.cut x y) C w) := by
  obtain ⟨F, rfl, hD, hk⟩ := h.left hN
  exact (fail_any hD x y).mono fun e w' ⟨he, hp⟩ => ⟨he, hk _ _ hp⟩
theorem failR (x y : Int) : Calls Try.prog 25 #[ptr db, .int .i64 x, .int .i64 y] w (TV N da db A (C.cut x y) w) := by
  obtain ⟨F, rfl, hD, hk⟩ := h.right hN
  exact (fail_any hD x y).mono fun e w' ⟨he, hp⟩ => ⟨he, hk _ _ hp⟩
theorem syncL : Calls Try.prog 21 #[ptr da] w (TI N da db A.sync.1 A.sync.2 C w) := by
  obtain ⟨F, rfl, hD, hk⟩ := h.left hN
  exact (sync_any hD).mono fun e w' ⟨he, hp⟩ => ⟨he, hk _ _ hp⟩
theorem syncR : Calls Try.prog 21 #[ptr db] w (TI N da db C.sync.1 A C.sync.2 w) := by
  obtain ⟨F, rfl, hD, hk⟩ := h.right hN
  exact (sync_any hD).mono fun e w' ⟨he, hp⟩ => ⟨he, hk _ _ hp⟩
theorem writeL (s : Int) (t : ByteArray) (hfew : A.q.length < 1000000) : Calls Try.prog 23 #[ptr da, .int .i64 s, .string t] w (TI N da db (A.write s t).1 (A.write s t).2 C w) := by
  obtain ⟨F, rfl, hD, hk⟩ := h.left hN
  exact (write_any hD s t hfew).mono fun e w' ⟨he, hp⟩ => ⟨he, hk _ _ hp⟩
theorem writeR (s : Int) (t : ByteArray) (hfew : C.q.length < 1000000) : Calls Try.prog 23 #[ptr db, .int .i64 s, .string t] w (TI N da db (C.write s t).1 A (C.write s t).2 w) := by
  obtain ⟨F, rfl, hD, hk⟩ := h.right hN
  exact (write_any hD s t hfew).mono fun e w' ⟨he, hp⟩ => ⟨he, hk _ _ hp⟩
theorem armL (a x y : Int) (ha : a ≤ 9223372036854775807) : Calls Try.prog 29 #[ptr da, .int .i64 a, .int .i64 x, .int .i64 y] w (TV N da db (A.armK a x y) C w) := by
  obtain ⟨F, rfl, hD, hk⟩ := h.left hN
  exact (arm_any hD a x y ha).mono fun e w' ⟨he, hp⟩ => ⟨he, hk _ _ hp⟩
theorem doL (a : Ac) (ht : a.text.size ≤ 1000) (ha : a.after ≤ 9223372036854775807) (hfew : A.q.length < 1000000) : Calls Try.prog 16 #[ptr da, a.val] w (TA N da db (A.act a).1 (A.act a).2 C w) := by
  obtain ⟨F, rfl, hD, hk⟩ := h.left hN
  exact (do_any hD a ht ha hfew).mono fun e w' ⟨he, hp⟩ => ⟨he, hk _ _ hp⟩
theorem doR (a : Ac) (ht : a.text.size ≤ 1000) (ha : a.after ≤ 9223372036854775807) (hfew : C.q.length < 1000000) : Calls Try.prog 16 #[ptr db, a.val] w (TA N da db (C.act a).1 A (C.act a).2 w) := by
  obtain ⟨F, rfl, hD, hk⟩ := h.right hN
  exact (do_any hD a ht ha hfew).mono fun e w' ⟨he, hp⟩ => ⟨he, hk _ _ hp⟩
omit hN in
theorem contentsL (ho : A.off = false) : Calls Try.prog 22 #[ptr da, .int .i64 (A.n : Int)] w (ContentsPost A w) := by
  obtain ⟨Fa, Fb, rfl, _, hA, _⟩ := h
  exact contents_on hA ho
omit hN in
theorem contentsR (ho : C.off = false) : Calls Try.prog 22 #[ptr db, .int .i64 (C.n : Int)] w (ContentsPost C w) := by
  obtain ⟨Fa, Fb, _, rfl, _, hC, _⟩ := h
  exact contents_on hC ho
end

theorem contentsE {w : World} {da : Nat} {A : DK} (n : Nat) (h : ∀ n, n = A.n → Calls Try.prog 22 #[ptr da, .int .i64 (A.n : Int)] w (ContentsPost A w)) (hn : A.n = n) : Calls Try.prog 22 #[ptr da, .int .i64 (n : Int)] w (ContentsPost A w) := by
  subst hn; exact h _ rfl

/-! ### One disk that may write to the blocks of S alone -/
def DiskS (w : World) (d : Nat) (S : Nat → Prop) (A : DK) : Prop := ∃ F : DF, F.d = d ∧ DiskAt w F A ∧ ∀ k, F.has k → S k

/-- S holds of every block that is still to be made. -/
def Up (S : Nat → Prop) (w : World) : Prop := ∀ k, w.heap.size ≤ k → S k
theorem Up.mod {S T : Nat → Prop} {w w' : World} (h : Up S w) (hm : Mod T w w') : Up S w' := fun k hk => h k (Nat.le_trans hm.size hk)

theorem DPost.toS {w w' : World} {F : DF} {A' : DK} {S : Nat → Prop} (h : DPost F w A' w') (hF : ∀ k, F.has k → S k) (hU : Up S w) : DiskS w' F.d S A' ∧ Mod S w w' := by
  obtain ⟨F', hd, hs, hD, hm⟩ := h
  refine ⟨⟨F', hd, hD, fun k hk => ?_⟩, hm.mono (fun i _ hi => hF i hi)⟩
  rcases hs k hk with h | h
  · exact hF k h
  · exact hU k h

section
variable {w : World} {d : Nat} {S : Nat → Prop} {A : DK}
theorem DiskS.mod {w' : World} (h : DiskS w d S A) (hm : Mod Nothing w w') : DiskS w' d S A := by
  obtain ⟨F, hd, hD, hF⟩ := h
  exact ⟨F, hd, hD.mod hm (fun _ _ => id), hF⟩
theorem DiskS.ok (h : DiskS w d S A) : A.Ok := by obtain ⟨F, _, hD, _⟩ := h; exact hD.ok
/-- A row that has been made behind the disk is none of the disk's blocks. -/
theorem DiskS.beside {w' : World} (h : DiskS w d S A) (hm : Mod Nothing w w') {g : Option Nat} (hg : ∀ k, g = some k → w.heap.size ≤ k) : DiskS w' d (fun k => S k ∧ g ≠ some k) A := by
  obtain ⟨F, hd, hD, hF⟩ := h
  exact ⟨F, hd, hD.mod hm (fun _ _ => id), fun k hk => ⟨hF k hk, fun e => by have := hg k e; have := hD.lt hk; omega⟩⟩

def SI (d : Nat) (S : Nat → Prop) (r : Int × DK) (w : World) (e : Ending) (w' : World) : Prop := e = .returned (.int .i64 r.1) ∧ DiskS w' d S r.2 ∧ Mod S w w'
def SV (d : Nat) (S : Nat → Prop) (A' : DK) (w : World) (e : Ending) (w' : World) : Prop := e = .returned (.tuple #[]) ∧ DiskS w' d S A' ∧ Mod S w w'
def SA (d : Nat) (S : Nat → Prop) (r : (ByteArray × Int) × DK) (w : World) (e : Ending) (w' : World) : Prop := e = .returned (.tuple #[.string r.1.1, .int .i64 r.1.2]) ∧ DiskS w' d S r.2 ∧ Mod S w w'

theorem newS (n : Nat) (w : World) (h1 : 1 ≤ n) (h2 : n ≤ 8000) (hU : Up S w) : Calls Try.prog 13 #[.int .i64 (n : Int)] w fun e w' => ∃ d, e = .returned (ptr d) ∧ DiskS w' d S (DK.new n) ∧ Mod Nothing w w' := by
  refine (new_any n w h1 h2).mono ?_
  rintro e w' ⟨F, rfl, hF, hD, hm⟩
  exact ⟨F.d, rfl, ⟨F, rfl, hD, fun k hk => hU k (hF k hk)⟩, hm⟩
variable (h : DiskS w d S A) (hU : Up S w)
include h hU
theorem writeS (s : Int) (t : ByteArray) (hfew : A.q.length < 1000000) : Calls Try.prog 23 #[ptr d, .int .i64 s, .string t] w (SI d S (A.write s t) w) := by
  obtain ⟨F, rfl, hD, hF⟩ := h
  exact (write_any hD s t hfew).mono fun e w' ⟨he, hp⟩ => ⟨he, hp.toS hF hU⟩
theorem syncS : Calls Try.prog 21 #[ptr d] w (SI d S A.sync w) := by
  obtain ⟨F, rfl, hD, hF⟩ := h
  exact (sync_any hD).mono fun e w' ⟨he, hp⟩ => ⟨he, hp.toS hF hU⟩
theorem failS (x y : Int) : Calls Try.prog 25 #[ptr d, .int .i64 x, .int .i64 y] w (SV d S (A.cut x y) w) := by
  obtain ⟨F, rfl, hD, hF⟩ := h
  exact (fail_any hD x y).mono fun e w' ⟨he, hp⟩ => ⟨he, hp.toS hF hU⟩
theorem startS : Calls Try.prog 20 #[ptr d] w (SV d S A.start w) := by
  obtain ⟨F, rfl, hD, hF⟩ := h
  exact (start_any hD).mono fun e w' ⟨he, hp⟩ => ⟨he, hp.toS hF hU⟩
theorem rotS (a x y : Int) : Calls Try.prog 30 #[ptr d, .int .i64 a, .int .i64 x, .int .i64 y] w (SV d S (A.rot a x y) w) := by
  obtain ⟨F, rfl, hD, hF⟩ := h
  exact (rot_any hD a x y).mono fun e w' ⟨he, hp⟩ => ⟨he, hp.toS hF hU⟩
theorem doS (a : Ac) (ht : a.text.size ≤ 1000) (ha : a.after ≤ 9223372036854775807) (hfew : A.q.length < 1000000) : Calls Try.prog 16 #[ptr d, a.val] w (SA d S (A.act a) w) := by
  obtain ⟨F, rfl, hD, hF⟩ := h
  exact (do_any hD a ht ha hfew).mono fun e w' ⟨he, hp⟩ => ⟨he, hp.toS hF hU⟩
omit hU
theorem readS (s : Int) : Calls Try.prog 18 #[ptr d, .int .i64 s] w (RPost (A.read s) w) := by
  obtain ⟨F, rfl, hD, hF⟩ := h
  exact read_any hD s
theorem rawS : Calls Try.prog 31 #[ptr d] w fun e w' => e = .returned (.string ⟨A.st.toArray⟩) ∧ w' = w := by
  obtain ⟨F, rfl, hD, hF⟩ := h
  exact raw_any hD
theorem contentsS (ho : A.off = false) : Calls Try.prog 22 #[ptr d, .int .i64 (A.n : Int)] w (ContentsPost A w) := by
  obtain ⟨F, rfl, hD, hF⟩ := h
  exact contents_on hD ho
end

end Go.Proofs.Ytbioeeccbcaljaa
