/- Acts as plain data; Act.text, fill, size. -/
import Derived.Test.YtbioeeccbcaljaaA9
set_option linter.unusedVariables false
set_option linter.unusedSimpArgs false
namespace Go.Proofs.Ytbioeeccbcaljaa
open Go.RowKit

structure Ac where
  kind : Int
  sector : Int
  bytes : Int
  text : ByteArray
  odd : Bool
  after : Int

def Ac.cells (a : Ac) : List Value := [.int .i64 a.kind, .int .i64 a.sector, .int .i64 a.bytes, .string a.text, .bool a.odd, .int .i64 a.after]
abbrev Ac.val (a : Ac) : Value := .agg #[.int .i64 a.kind, .int .i64 a.sector, .int .i64 a.bytes, .string a.text, .bool a.odd, .int .i64 a.after]

/-- A text repeated, cut at 64 bytes. -/
def rep64 (l : List UInt8) : List UInt8 := (List.replicate 64 l).flatten.take 64
def Ac.txt (a : Ac) : ByteArray := if a.odd = true ∨ a.text.size = 0 then a.text else ⟨(rep64 a.text.data.toList).toArray⟩

theorem rep_length (l : List UInt8) (k : Nat) : (List.replicate k l).flatten.length = k * l.length := by simp

theorem rep_take (l : List UInt8) (k : Nat) (hk : k ≤ 64) (h : 64 ≤ k * l.length) : (List.replicate k l).flatten.take 64 = rep64 l := by
  unfold rep64
  have e : (List.replicate 64 l).flatten = (List.replicate k l).flatten ++ (List.replicate (64 - k) l).flatten := by
    rw [← List.flatten_append, List.replicate_append_replicate, show k + (64 - k) = 64 by omega]
  rw [e, List.take_append_of_le_length (by rw [rep_length]; exact h)]

theorem Ac.txt_size_ne (a : Ac) (h : a.odd = false) (h0 : a.text.size ≠ 0) : a.txt.size = 64 := by
  have : ¬ (a.odd = true ∨ a.text.size = 0) := by simp [h, h0]
  rw [Ac.txt, if_neg this]
  show (rep64 a.text.data.toList).toArray.size = 64
  have hl : 0 < a.text.data.toList.length := by
    have : a.text.data.toList.length = a.text.size := rfl
    omega
  have : 64 ≤ 64 * a.text.data.toList.length := by omega
  simp [rep64]
  have e : a.text.data.size = a.text.size := rfl
  omega

theorem ba_empty {s : ByteArray} (h : s.size = 0) : s = ⟨#[]⟩ := by
  cases s with
  | mk d =>
    have : d.size = 0 := h
    rw [Array.size_eq_zero_iff.1 this]

theorem ba_toList (s : ByteArray) : s.toList = s.data.toList := ByteArray.toList_eq s
theorem ba_len (s : ByteArray) : s.data.toList.length = s.size := rfl
theorem ba_append (a b : ByteArray) : (a ++ b).data.toList = a.data.toList ++ b.data.toList := by simp
theorem ba_ext {a b : ByteArray} (h : a.data.toList = b.data.toList) : a = b := by
  cases a; cases b
  congr 1
  exact Array.toList_inj.1 h

def TextPost (s : ByteArray) (w : World) (e : Ending) (w' : World) : Prop := e = .returned (.string s) ∧ Mod Nothing w w'

set_option maxHeartbeats 400000 in
theorem text_plain (a : Ac) (w : World) (h : a.odd = true ∨ a.text.size = 0) : Calls Try.prog 24 #[a.val] w (TextPost a.txt w) := by
  have HT := hid_ (show a.txt = a.text by rw [Ac.txt, if_pos h])
  by_cases ho : a.odd = true
  · obtain ⟨kind, sector, bytes, text, odd, after⟩ := a
    simp only at ho
    subst ho
    clear h
    go_enter Try.func24, Try.ntmps24
    go_wp2
    go_returns
    rw [HT.out]
    exact ⟨rfl, (Mod.refl _ _).alloc _⟩
  · obtain ⟨kind, sector, bytes, text, odd, after⟩ := a
    simp only at ho h
    have h0 : text.size = 0 := by rcases h with h | h; exact absurd h ho; exact h
    have ho' : odd = false := by simpa using ho
    subst ho'
    obtain rfl := ba_empty h0
    clear h ho h0
    go_enter Try.func24, Try.ntmps24
    go_wp2
    go_returns
    rw [HT.out]
    exact ⟨rfl, (Mod.refl _ _).alloc _⟩

set_option maxHeartbeats 800000 in
theorem text_rep (a : Ac) (w : World) (h : a.odd = false) (h0 : a.text.size ≠ 0) (h1 : a.text.size ≤ 1000) : Calls Try.prog 24 #[a.val] w (TextPost a.txt w) := by
  have HT := hid_ (show a.txt = ⟨(rep64 a.text.data.toList).toArray⟩ by rw [Ac.txt, if_neg (by simp [h, h0])])
  obtain ⟨kind, sector, bytes, text, odd, after⟩ := a
  simp only at h h0 h1
  subst h
  have hp : 0 < text.size := by omega
  have hne : text.toList.isEmpty = false := by
    rw [List.isEmpty_eq_false_iff, ne_eq, ← List.length_eq_zero_iff, ba_toList, ba_len]; omega
  clear h0
  go_enter Try.func24, Try.ntmps24
  go_wp2
  go_loopw [3] (fun v wr => ∃ (k : Nat) (s : ByteArray), v = .string s ∧ s.data.toList = (List.replicate k text.data.toList).flatten ∧ s.size < 64 + 1000 ∧ (k = 0 ∨ (k - 1) * text.size < 64) ∧ wr = w.alloc (.cells #[.int .i64 kind, .int .i64 sector, .int .i64 bytes, .string text, .bool false, .int .i64 after] 34))
    (fun v _ => match v with | .string s => 64 - s.size | _ => 0)
  case atStart => exact ⟨0, ⟨#[]⟩, rfl, rfl, by decide, .inl rfl, rfl⟩
  case round =>
    obtain ⟨k, s, rfl, hs, hs2, hk, rfl⟩ := hrel
    have HS := hid_ hs
    have HK := hid_ hk
    clear hs hk
    by_cases hlt : s.size < 64
    · have hlt' : (s.size : Int) < 64 := by omega
      go_wp2
      go_roundw
      case rel =>
        refine ⟨k + 1, s ++ text, rfl, ?_, ?_, .inr ?_, trivial⟩
        · rw [ba_append, HS.out, List.replicate_succ', List.flatten_append]; simp
        · rw [ByteArray.size_append]; omega
        · have e : s.size = k * text.size := by rw [← ba_len s, HS.out, rep_length, ba_len]
          rw [Nat.add_sub_cancel, ← e]; omega
      case measure => simp [ByteArray.size_append]; omega
    · have hlt' : ¬ (s.size : Int) < 64 := by omega
      go_wp2
      go_returns
      refine ⟨?_, (Mod.refl _ _).alloc _⟩
      have e : s.size = k * text.size := by rw [← ba_len s, HS.out, rep_length, ba_len]
      have hk : k ≤ 64 := by
        rcases HK.out with h | h
        · omega
        · rcases Nat.lt_or_ge 64 k with h' | h'
          · have : 64 * 1 ≤ (k - 1) * text.size := Nat.mul_le_mul (by omega) (by omega)
            omega
          · exact h'
      rw [HT.out]
      have : s.extract 0 64 = ⟨(rep64 text.data.toList).toArray⟩ := by
        apply ba_ext
        rw [← rep_take text.data.toList k hk (by rw [ba_len]; omega), ← HS.out]
        simp
      rw [← this]
      rfl

theorem text_any (a : Ac) (w : World) (h1 : a.text.size ≤ 1000) : Calls Try.prog 24 #[a.val] w (TextPost a.txt w) := by
  by_cases h : a.odd = true ∨ a.text.size = 0
  · exact text_plain a w h
  · exact text_rep a w (by simp at h; exact h.1) (fun h0 => h (.inr h0)) h1

def fillT (s : ByteArray) : ByteArray := (Ac.mk 0 0 0 s false 0).txt

theorem fill_any (s : ByteArray) (w : World) (h1 : s.size ≤ 1000) : Calls Try.prog 28 #[.string s] w (TextPost (fillT s) w) := by
  go_enter Try.func28, Try.ntmps28
  go_wp2_with fail
  refine (text_any (Ac.mk 0 0 0 s false 0) w h1).mono ?_
  rintro e w1 ⟨rfl, hm⟩
  have HM := hid_ hm
  clear hm
  go_wp2
  go_returns
  exact ⟨rfl, HM.out⟩

theorem size_any (r : Nat) (w : World) (hr : r < 256) : Calls Try.prog 14 #[.int .u8 (r : Int)] w fun e w' => e = .returned (.int .i64 ((1 + r % 12 : Nat) : Int)) ∧ w' = w := by
  have h0 : (0 : Int) ≤ r := by omega
  have h1 : (r : Int) < 256 := by omega
  go_enter Try.func14, Try.ntmps14
  go_wp2
  go_ret
  exact ⟨by show Ending.returned (.int .i64 (1 + (r : Int) % 12)) = _; push_cast; rfl, rfl⟩

end Go.Proofs.Ytbioeeccbcaljaa
