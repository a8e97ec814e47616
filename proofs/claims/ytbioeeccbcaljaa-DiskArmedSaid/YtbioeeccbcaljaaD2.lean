/- An armed disk beside one that is not armed: plain laws. -/
import Derived.Test.YtbioeeccbcaljaaC7
set_option linter.unusedVariables false
set_option linter.unusedSimpArgs false
namespace Go.Proofs.Ytbioeeccbcaljaa
open Go.RowKit

/-- The same disk with an alarm that is left to ring behind lf calls, if there is one. -/
def DK.armd (C : DK) (a lf x y : Int) : DK := { C with arm := if 0 ≤ a then some (lf, x, y) else none }
theorem DK.Idle.armd0 {Y : DK} (h : Y.Idle) (a x y : Int) : Y.armK a x y = Y.armd a a x y := by
  unfold DK.armK
  rw [if_neg (by rw [h.on]; simp)]
  rfl
theorem DK.armd_bad {C : DK} (h : C.Idle) {a lf x y : Int} {v : Ac} (hb : ¬ goodW C.n v) : (C.armd a lf x y).write v.sector v.txt = (1, C.armd a lf x y) := by
  unfold goodW at hb
  have ho : (C.armd a lf x y).off = false := h.on
  have hn : (C.armd a lf x y).n = C.n := rfl
  unfold DK.write
  rw [ho, if_neg (by simp), hn]
  by_cases h1 : 0 ≤ v.sector ∧ v.sector < C.n
  · rw [if_pos h1, if_neg (fun e => hb ⟨h1.1, h1.2, e⟩)]
  · rw [if_neg h1]
theorem DK.armd_good {C : DK} (h : C.Idle) {a lf x y : Int} {v : Ac} (hg : goodW C.n v) : (C.armd a lf x y).write v.sector v.txt = ((C.push v.sector.toNat v.txt).armd a lf x y).count := by
  unfold goodW at hg
  have ho : (C.armd a lf x y).off = false := h.on
  have hn : (C.armd a lf x y).n = C.n := rfl
  unfold DK.write
  rw [ho, if_neg (by simp), hn, if_pos ⟨hg.1, hg.2.1⟩, if_pos hg.2.2]
  rfl
theorem DK.armd_cut {C : DK} (a lf x y u v : Int) (h : C.off = false) : (C.armd a lf x y).cut u v = C.cut u v := by
  unfold DK.cut
  have ho : (C.armd a lf x y).off = false := h
  rw [ho, h]
  rfl
theorem DK.armd_count_off {C : DK} (h : C.off = false) {a x y : Int} (ha : 0 ≤ a) : (C.armd a 0 x y).count = (22, C.cut x y) := by
  rw [← DK.armd_cut a 0 x y x y h]
  unfold DK.count
  have e : (C.armd a 0 x y).arm = some (0, x, y) := by simp [DK.armd, ha]
  rw [e]
  simp
theorem DK.armd_count_pos {C : DK} {a lf x y : Int} (ha : 0 ≤ a) (hl : 0 < lf) : (C.armd a lf x y).count = (0, C.armd a (lf - 1) x y) := by
  unfold DK.count
  have e : (C.armd a lf x y).arm = some (lf, x, y) := by simp [DK.armd, ha]
  rw [e]
  simp only
  rw [if_pos hl]
  simp [DK.armd, ha]
theorem DK.armd_count_neg {C : DK} {a lf x y : Int} (ha : a < 0) : (C.armd a lf x y).count = (0, C.armd a lf x y) := by
  unfold DK.count
  have e : (C.armd a lf x y).arm = none := by simp [DK.armd]; omega
  rw [e]
/-- The disk behind a call of Sync. -/
def DK.settled (C : DK) : DK := { C with st := settleL C.st C.q, q := [] }
theorem DK.Idle.settled {C : DK} (h : C.Idle) : C.settled.Idle := ⟨h.on, h.calm⟩
theorem DK.Idle.sync' {C : DK} (h : C.Idle) : C.sync = (0, C.settled) := h.sync
theorem DK.armd_sync_off {C : DK} (h : C.Idle) {a x y : Int} (ha : 0 ≤ a) : (C.armd a 0 x y).sync = (22, C.cut x y) := by
  have ho : (C.armd a 0 x y).off = false := h.on
  unfold DK.sync
  rw [ho, if_neg (by simp), DK.armd_count_off h.on ha]
  simp
theorem DK.armd_sync_pos {C : DK} (h : C.Idle) {a lf x y : Int} (ha : 0 ≤ a) (hl : 0 < lf) : (C.armd a lf x y).sync = (0, C.settled.armd a (lf - 1) x y) := by
  have ho : (C.armd a lf x y).off = false := h.on
  unfold DK.sync
  rw [ho, if_neg (by simp), DK.armd_count_pos ha hl]
  simp [DK.armd, DK.settled]
theorem DK.armd_sync_neg {C : DK} (h : C.Idle) {a lf x y : Int} (ha : a < 0) : (C.armd a lf x y).sync = (0, C.settled.armd a lf x y) := by
  have ho : (C.armd a lf x y).off = false := h.on
  unfold DK.sync
  rw [ho, if_neg (by simp), DK.armd_count_neg ha]
  simp [DK.armd, DK.settled]
theorem DK.Idle.armd_start {C : DK} (h : C.Idle) (a lf x y : Int) : (C.armd a lf x y).start = C.start := rfl
theorem DK.Idle.good {C : DK} (h : C.Idle) {v : Ac} (hg : goodW C.n v) : C.write v.sector v.txt = (0, C.push v.sector.toNat v.txt) := by
  rw [h.write]
  unfold goodW at hg
  rw [if_pos hg]
theorem DK.Idle.bad {C : DK} (h : C.Idle) {v : Ac} (hg : ¬ goodW C.n v) : C.write v.sector v.txt = (1, C) := by
  rw [h.write]
  unfold goodW at hg
  rw [if_neg hg]

theorem ActsAt.sixm {w0 w' : World} {b off : Nat} {l : List Ac} (h : ActsAt w0 w0.heap.size (some ⟨b, off, none⟩) l) (hm : Mod (From w0.heap.size) w0 w') {k : Nat} {a : Ac} (hk : l[k]? = some a) :
    w'.cell? ⟨b, off + k * 6, none⟩ = some (.int .i64 a.kind) ∧ w'.cell? ⟨b, off + k * 6 + 1, none⟩ = some (.int .i64 a.sector) ∧ w'.cell? ⟨b, off + k * 6 + 2, none⟩ = some (.int .i64 a.bytes) ∧
      w'.cell? ⟨b, off + k * 6 + 3, none⟩ = some (.string a.text) ∧ w'.cell? ⟨b, off + k * 6 + 4, none⟩ = some (.bool a.odd) ∧ w'.cell? ⟨b, off + k * 6 + 5, none⟩ = some (.int .i64 a.after) := by
  obtain ⟨b', off', hA, hb, c0, c1, c2, c3, c4, c5⟩ := (h.keep (fun k hk => hm.block k hk (Nat.not_le.2 hk))).six hk
  simp only [Option.some.injEq, Addr.mk.injEq] at hA
  obtain ⟨rfl, rfl, -⟩ := hA
  exact ⟨c0, c1, c2, c3, c4, c5⟩

end Go.Proofs.Ytbioeeccbcaljaa
