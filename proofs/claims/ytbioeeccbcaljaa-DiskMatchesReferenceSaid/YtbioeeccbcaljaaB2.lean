/- Lists of acts in memory; ok. -/
import Derived.Test.YtbioeeccbcaljaaB1
set_option linter.unusedVariables false
set_option linter.unusedSimpArgs false
namespace Go.Proofs.Ytbioeeccbcaljaa
open Go.RowKit

/-- A slice A of acts, below block B. -/
def ActsAt (w : World) (B : Nat) (A : Option Addr) (l : List Ac) : Prop :=
  ∀ k a, l[k]? = some a → ∃ b off, A = some ⟨b, off, none⟩ ∧ b < B ∧ ∀ j u, a.cells[j]? = some u → w.cell? ⟨b, off + k * 6 + j, none⟩ = some u

theorem ActsAt.keep {w w' : World} {B : Nat} {A : Option Addr} {l : List Ac} (h : ActsAt w B A l) (hk : ∀ k, k < B → w'.heap[k]? = w.heap[k]?) : ActsAt w' B A l := by
  intro k a hka
  obtain ⟨b, off, hA, hb, hc⟩ := h k a hka
  exact ⟨b, off, hA, hb, fun j u hu => (World.cell?_of_block (w := w) (hk b hb)).trans (hc j u hu)⟩

theorem ActsAt.six {w : World} {B : Nat} {A : Option Addr} {l : List Ac} (h : ActsAt w B A l) {k : Nat} {a : Ac} (hk : l[k]? = some a) :
    ∃ b off, A = some ⟨b, off, none⟩ ∧ b < B ∧ w.cell? ⟨b, off + k * 6, none⟩ = some (.int .i64 a.kind) ∧ w.cell? ⟨b, off + k * 6 + 1, none⟩ = some (.int .i64 a.sector) ∧ w.cell? ⟨b, off + k * 6 + 2, none⟩ = some (.int .i64 a.bytes) ∧
      w.cell? ⟨b, off + k * 6 + 3, none⟩ = some (.string a.text) ∧ w.cell? ⟨b, off + k * 6 + 4, none⟩ = some (.bool a.odd) ∧ w.cell? ⟨b, off + k * 6 + 5, none⟩ = some (.int .i64 a.after) := by
  obtain ⟨b, off, hA, hb, hc⟩ := h k a hk
  exact ⟨b, off, hA, hb, hc 0 _ rfl, hc 1 _ rfl, hc 2 _ rfl, hc 3 _ rfl, hc 4 _ rfl, hc 5 _ rfl⟩

/-- What the statements ask of a list of acts. -/
def okB (l : List Ac) : Bool := l.all (fun a => decide (a.text.size ≤ 100)) && decide (l.length ≤ 60)

def BPost (b : Bool) (w : World) (e : Ending) (w' : World) : Prop := e = .returned (.bool b) ∧ w' = w

set_option maxHeartbeats 800000 in
theorem ok_any (w : World) (B : Nat) (A : Option Addr) (l : List Ac) (c n : Nat) (hn : l.length = n) (hl : ActsAt w B A l) (hm : n ≤ 9223372036854775807) :
    Calls Try.prog 12 #[.slice A n c] w (BPost (okB l) w) := by
  have HL := hid_ hl
  have HN := hid_ hn
  clear hl hn
  go_enter Try.func12, Try.ntmps12
  go_wp2
  go_loop [3] (fun v => ∃ k : Nat, k ≤ n ∧ v = .int .i64 k ∧ (l.take k).all (fun a => decide (a.text.size ≤ 100)) = true) (fun v => n - (intOf v).toNat)
  case atStart => exact ⟨0, Nat.zero_le _, rfl, rfl⟩
  case round =>
    obtain ⟨k, hk, rfl, hall⟩ := hrel
    have HA := hid_ hall
    clear hall
    by_cases hlt : k < n
    · obtain ⟨a, ha⟩ : ∃ a, l[k]? = some a := ⟨_, List.getElem?_eq_getElem (by rw [HN.out]; exact hlt)⟩
      obtain ⟨b, off, hA, hb, -, -, -, c3, -, -⟩ := HL.out.six ha
      have HK := hid_ ha
      subst hA
      clear ha
      by_cases ht : a.text.size ≤ 100
      · have ht' : ¬ (100 : Int) < a.text.size := by omega
        go_wp2
        go_round
        case rel =>
          refine ⟨k + 1, by omega, by go_num, ?_⟩
          rw [List.take_add_one, HK.out, List.all_append, HA.out]
          simp [ht]
        case measure => simp [intOf]; omega
      · have ht' : (100 : Int) < a.text.size := by omega
        go_wp2
        go_ret
        have e : okB l = false := by
          unfold okB
          rw [Bool.and_eq_false_iff]
          left
          rw [List.all_eq_false]
          exact ⟨a, List.mem_of_getElem? HK.out, by simp; omega⟩
        rw [e]
        exact ⟨rfl, rfl⟩
    · have hkn : k = n := by omega
      subst hkn
      go_wp2
      go_ret
      have e : okB l = decide (k ≤ 60) := by
        have h := HA.out
        rw [List.take_of_length_le (by rw [HN.out]; exact Nat.le_refl _)] at h
        rw [okB, h, HN.out]; rfl
      rw [e]
      exact ⟨by simp; omega, rfl⟩

end Go.Proofs.Ytbioeeccbcaljaa
