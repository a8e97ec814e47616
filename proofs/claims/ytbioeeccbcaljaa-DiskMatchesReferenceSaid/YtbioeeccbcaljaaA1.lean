/- The disk as plain data, and how it lies in memory. -/
import Derived.Test.YtbioeeccbcaljaaW0
import Derived.Test.YtbioeeccbcaljaaRows
import Derived.WalkSpells
import Derived.WalkLawsBesides
import Derived.Handy
import Derived.StillTailTactics
import Derived.Laws.CopyOwn
import Derived.Deep.QuietTactic
import Derived.BigQuiet
set_option linter.unusedVariables false
set_option linter.unusedSimpArgs false
namespace Go.Proofs.Ytbioeeccbcaljaa
open Go.RowKit

/-- A disk: n sectors; the stable bytes; the pending writes; whether it is off; the alarm. -/
structure DK where
  n : Nat
  st : List UInt8
  q : List (Nat × ByteArray)
  off : Bool
  arm : Option (Int × Int × Int)

structure DK.Ok (A : DK) : Prop where
  len : A.st.length = A.n * 64
  pos : 1 ≤ A.n
  top : A.n ≤ 8000
  items : ∀ p ∈ A.q, p.1 < A.n ∧ p.2.size = 64
  few : A.q.length ≤ 1000000
  lo : ∀ a x y, A.arm = some (a, x, y) → 0 ≤ a
  hi : ∀ a x y, A.arm = some (a, x, y) → a ≤ 9223372036854775807

def u8s (l : List UInt8) : List Value := l.map fun x => .int .u8 x.toNat
def pendCells (q : List (Nat × ByteArray)) : List Value := q.flatMap fun p => [.int .i64 ((p.1 * 64 : Nat) : Int), .int .i64 (((p.1 + 1) * 64 : Nat) : Int), .string p.2]

theorem u8s_length (l : List UInt8) : (u8s l).length = l.length := by simp [u8s]
theorem pendCells_length (q : List (Nat × ByteArray)) : (pendCells q).length = q.length * 3 := by
  induction q with
  | nil => rfl
  | cons p q ih => simp [pendCells] at ih ⊢; omega
theorem pendCells_append (q r : List (Nat × ByteArray)) : pendCells (q ++ r) = pendCells q ++ pendCells r := by simp [pendCells]

/-- Where a disk lies: its struct, its stable bytes, the queue's slice, the alarm. -/
structure DF where
  d : Nat
  sb : Nat
  qv : Value
  av : Option Nat

def DF.has (F : DF) (k : Nat) : Prop := k = F.d ∨ k = F.sb ∨ F.qv.ownBlock = some k ∨ F.av = some k

def armPtr (av : Option Nat) : Value := .pointer (av.map fun g => ⟨g, 0, none⟩)

structure DiskAt (w : World) (F : DF) (A : DK) : Prop where
  head : Bk w F.d 60 [.slice (some ⟨F.sb, 0, none⟩) (A.n * 64) (A.n * 64), F.qv, .bool A.off, armPtr F.av]
  stable : Bk w F.sb 5 (u8s A.st)
  queue : w.ownsRow 0 70 3 F.qv A.q.length (pendCells A.q)
  noarm : A.arm = none → F.av = none
  armed : ∀ a x y, A.arm = some (a, x, y) → ∃ g, F.av = some g ∧ Bk w g 76 [.int .i64 a, .int .i64 x, .int .i64 y]
  ok : A.Ok

theorem DiskAt.lt {w : World} {F : DF} {A : DK} (h : DiskAt w F A) {k : Nat} (hk : F.has k) : k < w.heap.size := by
  rcases hk with rfl | rfl | hk | hk
  · exact h.head.lt
  · exact h.stable.lt
  · exact own_lt h.queue hk
  · cases ha : A.arm with
    | none => rw [h.noarm ha] at hk; cases hk
    | some p =>
      obtain ⟨a, x, y⟩ := p
      obtain ⟨g, hg, hb⟩ := h.armed a x y ha
      rw [hg] at hk; cases hk; exact hb.lt

/-- A disk stays where its blocks are left alone. -/
theorem DiskAt.keep {w w' : World} {F : DF} {A : DK} (h : DiskAt w F A) (hk : ∀ k, F.has k → w'.heap[k]? = w.heap[k]?) : DiskAt w' F A where
  head := (hk _ (.inl rfl)).trans h.head
  stable := (hk _ (.inr (.inl rfl))).trans h.stable
  queue := own_keep h.queue fun k e => hk k (.inr (.inr (.inl e)))
  noarm := h.noarm
  armed := fun a x y e => by
    obtain ⟨g, hg, hb⟩ := h.armed a x y e
    exact ⟨g, hg, (hk g (.inr (.inr (.inr hg)))).trans hb⟩
  ok := h.ok

theorem DiskAt.mod {S : Nat → Prop} {w w' : World} {F : DF} {A : DK} (h : DiskAt w F A) (hm : Mod S w w') (hS : ∀ k, F.has k → ¬ S k) : DiskAt w' F A :=
  h.keep fun k hk => hm.block k (h.lt hk) (hS k hk)

theorem DiskAt.ne_sb {w : World} {F : DF} {A : DK} (h : DiskAt w F A) : F.d ≠ F.sb := h.head.ne h.stable (by decide)
theorem DiskAt.ne_q {w : World} {F : DF} {A : DK} (h : DiskAt w F A) {k : Nat} (hk : F.qv.ownBlock = some k) : k ≠ F.d ∧ k ≠ F.sb := ⟨own_ne h.queue hk h.head (by decide), own_ne h.queue hk h.stable (by decide)⟩
theorem DiskAt.ne_a {w : World} {F : DF} {A : DK} (h : DiskAt w F A) {k : Nat} (hk : F.av = some k) : k ≠ F.d ∧ k ≠ F.sb ∧ F.qv.ownBlock ≠ some k := by
  cases ha : A.arm with
  | none => rw [h.noarm ha] at hk; cases hk
  | some p =>
    obtain ⟨a, x, y⟩ := p
    obtain ⟨g, hg, hb⟩ := h.armed a x y ha
    rw [hg] at hk; cases hk
    exact ⟨hb.ne h.head (by decide), hb.ne h.stable (by decide), fun e => own_ne h.queue e hb (by decide) rfl⟩

/-- A disk whose struct's cells (and stable bytes) have been written. -/
theorem DiskAt.again {w w' : World} {F : DF} {A : DK} (h : DiskAt w F A) {st' : List UInt8} {q' : List (Nat × ByteArray)} {qv' : Value} {off' : Bool} {av' : Option Nat} {arm' : Option (Int × Int × Int)}
    (hst : Bk w' F.sb 5 (u8s st')) (hlen : st'.length = A.n * 64) (hq : (qv' = F.qv ∧ q' = A.q) ∨ (qv' = .slice none 0 0 ∧ q' = [])) (ha : (av' = F.av ∧ arm' = A.arm) ∨ (av' = none ∧ arm' = none))
    (hb : Bk w' F.d 60 [.slice (some ⟨F.sb, 0, none⟩) (A.n * 64) (A.n * 64), qv', .bool off', armPtr av'])
    (hk : ∀ k, (F.qv.ownBlock = some k ∨ F.av = some k) → w'.heap[k]? = w.heap[k]?) : DiskAt w' ⟨F.d, F.sb, qv', av'⟩ ⟨A.n, st', q', off', arm'⟩ where
  head := hb
  stable := hst
  queue := by
    rcases hq with ⟨rfl, rfl⟩ | ⟨rfl, rfl⟩
    · exact own_keep h.queue fun k e => hk k (.inl e)
    · exact World.ownsRow_nil _ _ _ _
  noarm := by
    rcases ha with ⟨rfl, rfl⟩ | ⟨rfl, rfl⟩
    · exact h.noarm
    · exact fun _ => rfl
  armed := by
    rcases ha with ⟨rfl, rfl⟩ | ⟨rfl, rfl⟩
    · intro a x y e
      obtain ⟨g, hg, hbg⟩ := h.armed a x y e
      exact ⟨g, hg, (hk g (.inr hg)).trans hbg⟩
    · exact fun _ _ _ e => by cases e
  ok := by
    refine ⟨hlen, h.ok.pos, h.ok.top, ?_, ?_, ?_, ?_⟩
    · rcases hq with ⟨rfl, rfl⟩ | ⟨rfl, rfl⟩
      · exact h.ok.items
      · simp
    · rcases hq with ⟨rfl, rfl⟩ | ⟨rfl, rfl⟩
      · exact h.ok.few
      · simp
    · rcases ha with ⟨rfl, rfl⟩ | ⟨rfl, rfl⟩
      · exact h.ok.lo
      · simp
    · rcases ha with ⟨rfl, rfl⟩ | ⟨rfl, rfl⟩
      · exact h.ok.hi
      · simp

theorem DF.again_has {F : DF} {qv' : Value} {av' : Option Nat} (hq : qv' = F.qv ∨ qv' = .slice none 0 0) (ha : av' = F.av ∨ av' = none) {k : Nat} (hk : (⟨F.d, F.sb, qv', av'⟩ : DF).has k) : F.has k := by
  rcases hk with h | h | h | h
  · exact .inl h
  · exact .inr (.inl h)
  · rcases hq with rfl | rfl
    · exact .inr (.inr (.inl h))
    · cases h
  · rcases ha with rfl | rfl
    · exact .inr (.inr (.inr h))
    · cases h

/-- What a method of a disk does: the disk is A' now; other blocks are left alone. -/
def DPost (F : DF) (w : World) (A' : DK) (w' : World) : Prop :=
  ∃ F' : DF, F'.d = F.d ∧ (∀ k, F'.has k → F.has k ∨ w.heap.size ≤ k) ∧ DiskAt w' F' A' ∧ Mod F.has w w'

theorem DPost.same {F : DF} {A : DK} {w w' : World} (h : DiskAt w F A) (hm : Mod (fun _ => False) w w') : DPost F w A w' :=
  ⟨F, rfl, fun _ hk => .inl hk, h.mod hm (fun _ _ => id), hm.mono (fun _ _ => False.elim)⟩

theorem DPost.trans {F F1 : DF} {A2 : DK} {w w1 w2 : World} (hF : F1.d = F.d) (hs : ∀ k, F1.has k → F.has k ∨ w.heap.size ≤ k) (hm : Mod F.has w w1) (h2 : DPost F1 w1 A2 w2) : DPost F w A2 w2 := by
  obtain ⟨F2, e2, s2, d2, m2⟩ := h2
  refine ⟨F2, e2.trans hF, fun k hk => ?_, d2, hm.trans m2 ?_⟩
  · rcases s2 k hk with h | h
    · exact hs k h
    · have := hm.size; exact .inr (by omega)
  · intro i hi h
    rcases hs i h with h | h
    · exact h
    · omega

end Go.Proofs.Ytbioeeccbcaljaa
