/- How large a list of points in a call may be. -/
import Derived.Test.YtadiajlegajclaaC0
import Derived.SizedLaws
namespace Go.Proofs.Ytadiajlegajclaa
open Go.RowKit
section
variable {H : Type} {enc : TypeId × Value → H} {w : World} {base : Nat} {spare : Nat → Bool} {held : Bool}
theorem sized_pts {ts : List TypeId} {ds : List (DataW H)} (hs : (DataW.weightsEach Try.prog ts ds).all (· ≤ reachBytes) = true) {j : Nat} {d : DataW H} (ht : ts[j]? = some 22) (hd : ds[j]? = some d) {A : Option Addr} {n c : Nat} {p : List MemPlace}
    (h : DataW.Trod enc Try.prog w base spare held 22 (.slice A n c) d p) : n ≤ 8796093021952 := by
  obtain ⟨fuel, hf⟩ := h
  rcases Go.Deep.open_slice Try.underlying22 hf with ⟨hcs, _⟩ | ⟨a, len, cap, m, n', D, Pl, hcs, _, _, _, _, hx, _⟩
  · simp [Value.cells] at hcs
    omega
  · simp [Value.cells] at hcs
    obtain ⟨rfl, rfl, rfl⟩ := hcs
    injection hx with hx _
    subst hx
    have z := sized_slice hs ht hd Try.underlying22
    have hb : Try.prog.bytesOf 24 = 16 := by kernel_rfl
    have hr : reachBytes = 140737488351232 := by decide
    rw [hb, hr, List.length_map, List.length_range] at z
    have z2 := Nat.le_trans (Nat.mul_le_mul_right 16 (Nat.le_add_right n _)) z
    omega
end
end Go.Proofs.Ytadiajlegajclaa
