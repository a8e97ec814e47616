/- head: the examples of the chapter, run by the contracts. -/
import Derived.Test.YtbioeeccbcaljaaB5
set_option linter.unusedVariables false
set_option linter.unusedSimpArgs false
namespace Go.Proofs.Ytbioeeccbcaljaa
open Go.RowKit

section
variable {w : World} {d B : Nat} {A : DK}
theorem writeE (h : DiskB w d B A) (hB : B ≤ w.heap.size) (s : Int) (t : ByteArray) (hfew : A.q.length < 1000000) {r : Int} {A' : DK} (e : A.write s t = (r, A')) : Calls Try.prog 23 #[ptr d, .int .i64 s, .string t] w (IB d B (r, A') w) := by
  rw [← e]; exact writeB h hB s t hfew
theorem syncE (h : DiskB w d B A) (hB : B ≤ w.heap.size) {r : Int} {A' : DK} (e : A.sync = (r, A')) : Calls Try.prog 21 #[ptr d] w (IB d B (r, A') w) := by
  rw [← e]; exact syncB h hB
theorem readE (h : DiskB w d B A) (s : Int) {t : ByteArray} {r : Int} (e : A.read s = (t, r)) : Calls Try.prog 18 #[ptr d, .int .i64 s] w (RPost (t, r) w) := by
  rw [← e]; exact readB h s
theorem failE (h : DiskB w d B A) (hB : B ≤ w.heap.size) (x y : Int) {A' : DK} (e : A.cut x y = A') : Calls Try.prog 25 #[ptr d, .int .i64 x, .int .i64 y] w (VB d B A' w) := by
  rw [← e]; exact failB h hB x y
theorem startE (h : DiskB w d B A) (hB : B ≤ w.heap.size) {A' : DK} (e : A.start = A') : Calls Try.prog 20 #[ptr d] w (VB d B A' w) := by
  rw [← e]; exact startB h hB
theorem armE (h : DiskB w d B A) (hB : B ≤ w.heap.size) (a x y : Int) (ha : a ≤ 9223372036854775807) {A' : DK} (e : A.armK a x y = A') : Calls Try.prog 29 #[ptr d, .int .i64 a, .int .i64 x, .int .i64 y] w (VB d B A' w) := by
  rw [← e]; exact armB h hB a x y ha
theorem rotE (h : DiskB w d B A) (hB : B ≤ w.heap.size) (a x y : Int) {A' : DK} (e : A.rot a x y = A') : Calls Try.prog 30 #[ptr d, .int .i64 a, .int .i64 x, .int .i64 y] w (VB d B A' w) := by
  rw [← e]; exact rotB h hB a x y
end

def hA : ByteArray := fillT ⟨#[97]⟩
def hB : ByteArray := fillT ⟨#[98]⟩
def hZ : ByteArray := fillT ⟨#[0]⟩
def hShort : ByteArray := ⟨#[115, 104, 111, 114, 116]⟩
theorem sA_ : (2 : Int) ≤ hA.size := of_decide_eq_true (by kernel_rfl)
theorem zA_ : hA.size ≤ 64 := of_decide_eq_true (by kernel_rfl)
theorem fillA (w : World) : Calls Try.prog 28 #[.string ⟨#[97]⟩] w (TextPost hA w) := fill_any _ w (by decide)
theorem fillB (w : World) : Calls Try.prog 28 #[.string ⟨#[98]⟩] w (TextPost hB w) := fill_any _ w (by decide)
theorem fillZ (w : World) : Calls Try.prog 28 #[.string ⟨#[0]⟩] w (TextPost hZ w) := fill_any _ w (by decide)
def hD0 : DK := DK.new 2
def hD1 : DK := (hD0.write 0 hA).2
theorem e1 : hD0.write 0 hA = (0, hD1) := Prod.ext (by kernel_rfl) rfl
def hD2 : DK := (hD1.sync).2
theorem e2 : hD1.sync = (0, hD2) := Prod.ext (by kernel_rfl) rfl
def hD3 : DK := (hD2.write 0 hB).2
theorem e3 : hD2.write 0 hB = (0, hD3) := Prod.ext (by kernel_rfl) rfl
def hR0 : ByteArray := (hD3.read 0).1
theorem e4 : hD3.read 0 = (hR0, 0) := Prod.ext rfl (by kernel_rfl)
def hD4 : DK := hD3.cut 0 2
theorem e5 : hD3.cut 0 2 = hD4 := rfl
def hD4b : DK := (hD4.sync).2
theorem e6 : hD4.sync = (22, hD4b) := Prod.ext (by kernel_rfl) rfl
def hD5 : DK := hD4b.start
theorem e7 : hD4b.start = hD5 := rfl
def hR1 : ByteArray := (hD5.read 0).1
theorem e8 : hD5.read 0 = (hR1, 0) := Prod.ext rfl (by kernel_rfl)
def hR2 : ByteArray := (hD5.read 1).1
theorem e9 : hD5.read 1 = (hR2, 0) := Prod.ext rfl (by kernel_rfl)
def hR3 : ByteArray := (hD5.read 2).1
theorem e10 : hD5.read 2 = (hR3, 1) := Prod.ext rfl (by kernel_rfl)
def hD6 : DK := (hD5.write 1 hShort).2
theorem e11 : hD5.write 1 hShort = (1, hD6) := Prod.ext (by kernel_rfl) rfl
def hX0 : DK := DK.new 1
def hX1 : DK := (hX0.write 0 hA).2
theorem e12 : hX0.write 0 hA = (0, hX1) := Prod.ext (by kernel_rfl) rfl
def hX2 : DK := (hX1.sync).2
theorem e13 : hX1.sync = (0, hX2) := Prod.ext (by kernel_rfl) rfl
def hX3 : DK := hX2.rot 0 1 3
theorem e14 : hX2.rot 0 1 3 = hX3 := rfl
def hY : ByteArray := (hX3.read 0).1
theorem e15 : hX3.read 0 = (hY, 0) := Prod.ext rfl (by kernel_rfl)
def hX4 : DK := (hX3.write 0 hB).2
theorem e16 : hX3.write 0 hB = (0, hX4) := Prod.ext (by kernel_rfl) rfl
def hRaw : ByteArray := ⟨hX4.st.toArray⟩
def hK1 : DK := hX0.armK 1 1 2
theorem e17 : hX0.armK 1 1 2 = hK1 := rfl
def hK2 : DK := (hK1.write 0 hA).2
theorem e18 : hK1.write 0 hA = (0, hK2) := Prod.ext (by kernel_rfl) rfl
def hK3 : DK := (hK2.write 0 hB).2
theorem e19 : hK2.write 0 hB = (22, hK3) := Prod.ext (by kernel_rfl) rfl
def hK4 : DK := hK3.start
theorem e20 : hK3.start = hK4 := rfl
def hV : ByteArray := (hK4.read 0).1
theorem e21 : hK4.read 0 = (hV, 0) := Prod.ext rfl (by kernel_rfl)
theorem q_hD0 : hD0.q.length < 1000000 := of_decide_eq_true (by kernel_rfl)
theorem q_hD2 : hD2.q.length < 1000000 := of_decide_eq_true (by kernel_rfl)
theorem q_hD5 : hD5.q.length < 1000000 := of_decide_eq_true (by kernel_rfl)
theorem q_hX0 : hX0.q.length < 1000000 := of_decide_eq_true (by kernel_rfl)
theorem q_hX3 : hX3.q.length < 1000000 := of_decide_eq_true (by kernel_rfl)
theorem q_hK1 : hK1.q.length < 1000000 := of_decide_eq_true (by kernel_rfl)
theorem q_hK2 : hK2.q.length < 1000000 := of_decide_eq_true (by kernel_rfl)

theorem fY_ : (hY.toList == ((⟨#[97, 98]⟩ : ByteArray) ++ hA.extract 2 hA.size).toList) = true := by kernel_rfl
theorem fR_ : (hRaw.toList == hY.toList) = true := by kernel_rfl
theorem fV_ : (hV.toList == ((⟨#[98, 98]⟩ : ByteArray) ++ hA.extract 2 hA.size).toList) = true := by kernel_rfl
theorem fR0_ : (hR0.toList == hB.toList) = true := by kernel_rfl
theorem fR1_ : (hR1.toList == ((⟨#[98, 98]⟩ : ByteArray) ++ hA.extract 2 hA.size).toList) = true := by kernel_rfl
theorem fR2_ : (hR2.toList == hZ.toList) = true := by kernel_rfl
theorem rawE {w : World} {d B : Nat} {A : DK} (h : DiskB w d B A) {t : ByteArray} (e : (⟨A.st.toArray⟩ : ByteArray) = t) : Calls Try.prog 31 #[ptr d] w fun e w' => e = .returned (.string t) ∧ Mod Nothing w w' := by
  rw [← e]; exact (rawB h).mono fun e w' ⟨h1, h2⟩ => ⟨h1, h2 ▸ Mod.refl _ _⟩

set_option maxRecDepth 100000 in
set_option maxHeartbeats 4000000 in
theorem head_any (w : World) : Calls Try.prog 11 #[] w fun e w' => e = .returned (.bool true) ∧ Mod Nothing w w' := by
  have HM0 := hid_ (Mod.refl (From w.heap.size) w)
  go_enter Try.func11, Try.ntmps11
  go_wp2_with fail
  refine (newB 2 _ (by decide) (by decide) HM0.out.size).mono ?_
  rintro e w1 ⟨HDd, rfl, hd, hm⟩
  have HD1 := hid_ hd
  have HM1 := hid_ (HM0.out.trans hm (fun _ _ => False.elim))
  clear hd hm
  go_wp2_with fail
  refine (fillA _).mono ?_
  rintro e w2 ⟨rfl, hm⟩
  have HM2 := hid_ (HM1.out.trans hm (fun _ _ => False.elim))
  have HN2 := hid_ hm
  clear hm
  go_wp2_with fail
  refine (writeE (HD1.out.mod HN2.out) HM2.out.size 0 hA q_hD0 e1).mono ?_
  rintro e w3 ⟨rfl, hd, hm⟩
  have HD3 := hid_ hd
  have HM3 := hid_ (HM2.out.trans hm (fun _ _ h => h))
  clear hd hm
  go_wp2_with fail
  refine (syncE HD3.out HM3.out.size e2).mono ?_
  rintro e w4 ⟨rfl, hd, hm⟩
  have HD4 := hid_ hd
  have HM4 := hid_ (HM3.out.trans hm (fun _ _ h => h))
  clear hd hm
  go_wp2_with fail
  refine (fillB _).mono ?_
  rintro e w5 ⟨rfl, hm⟩
  have HM5 := hid_ (HM4.out.trans hm (fun _ _ => False.elim))
  have HN5 := hid_ hm
  clear hm
  go_wp2_with fail
  refine (writeE (HD4.out.mod HN5.out) HM5.out.size 0 hB q_hD2 e3).mono ?_
  rintro e w6 ⟨rfl, hd, hm⟩
  have HD6 := hid_ hd
  have HM6 := hid_ (HM5.out.trans hm (fun _ _ h => h))
  clear hd hm
  go_wp2_with fail
  refine (readE HD6.out 0 e4).mono ?_
  rintro e w7 ⟨rfl, hm⟩
  have HD7 := hid_ (HD6.out.mod hm)
  have HM7 := hid_ (HM6.out.trans hm (fun _ _ => False.elim))
  clear hm
  go_wp2_with fail
  refine (failE HD7.out HM7.out.size 0 2 e5).mono ?_
  rintro e w8 ⟨rfl, hd, hm⟩
  have HD8 := hid_ hd
  have HM8 := hid_ (HM7.out.trans hm (fun _ _ h => h))
  clear hd hm
  go_wp2_with fail
  refine (syncE HD8.out HM8.out.size e6).mono ?_
  rintro e w9 ⟨rfl, hd, hm⟩
  have HD9 := hid_ hd
  have HM9 := hid_ (HM8.out.trans hm (fun _ _ h => h))
  clear hd hm
  go_wp2_with fail
  refine (startE HD9.out HM9.out.size e7).mono ?_
  rintro e w10 ⟨rfl, hd, hm⟩
  have HD10 := hid_ hd
  have HM10 := hid_ (HM9.out.trans hm (fun _ _ h => h))
  clear hd hm
  go_wp2_with fail
  refine (readE HD10.out 0 e8).mono ?_
  rintro e w11 ⟨rfl, hm⟩
  have HD11 := hid_ (HD10.out.mod hm)
  have HM11 := hid_ (HM10.out.trans hm (fun _ _ => False.elim))
  clear hm
  go_wp2_with fail
  refine (readE HD11.out 1 e9).mono ?_
  rintro e w12 ⟨rfl, hm⟩
  have HD12 := hid_ (HD11.out.mod hm)
  have HM12 := hid_ (HM11.out.trans hm (fun _ _ => False.elim))
  clear hm
  go_wp2_with fail
  refine (readE HD12.out 2 e10).mono ?_
  rintro e w13 ⟨rfl, hm⟩
  have HD13 := hid_ (HD12.out.mod hm)
  have HM13 := hid_ (HM12.out.trans hm (fun _ _ => False.elim))
  clear hm
  go_wp2_with fail
  refine (writeE HD13.out HM13.out.size 1 hShort q_hD5 e11).mono ?_
  rintro e w14 ⟨rfl, hd, hm⟩
  have HD14 := hid_ hd
  have HM14 := hid_ (HM13.out.trans hm (fun _ _ h => h))
  clear hd hm
  go_wp2_with fail
  refine (fail_nil 1 1 _).mono ?_
  rintro e w' ⟨rfl, rfl⟩
  go_wp2_with fail
  refine (start_nil _).mono ?_
  rintro e w' ⟨rfl, rfl⟩
  go_wp2_with fail
  refine (arm_nil 0 1 1 _).mono ?_
  rintro e w' ⟨rfl, rfl⟩
  go_wp2_with fail
  refine (rot_nil 0 0 1 _).mono ?_
  rintro e w15 ⟨rfl, hm⟩
  have HM15 := hid_ (HM14.out.trans hm (fun _ _ => False.elim))
  clear hm
  go_wp2_with fail
  refine (newB 1 _ (by decide) (by decide) HM15.out.size).mono ?_
  rintro e w16 ⟨HXd, rfl, hd, hm⟩
  have HX16 := hid_ hd
  have HM16 := hid_ (HM15.out.trans hm (fun _ _ => False.elim))
  clear hd hm
  go_wp2_with fail
  refine (fillA _).mono ?_
  rintro e w17 ⟨rfl, hm⟩
  have HM17 := hid_ (HM16.out.trans hm (fun _ _ => False.elim))
  have HN17 := hid_ hm
  clear hm
  go_wp2_with fail
  refine (writeE (HX16.out.mod HN17.out) HM17.out.size 0 hA q_hX0 e12).mono ?_
  rintro e w18 ⟨rfl, hd, hm⟩
  have HX18 := hid_ hd
  have HM18 := hid_ (HM17.out.trans hm (fun _ _ h => h))
  clear hd hm
  go_wp2_with fail
  refine (syncE HX18.out HM18.out.size e13).mono ?_
  rintro e w19 ⟨rfl, hd, hm⟩
  have HX19 := hid_ hd
  have HM19 := hid_ (HM18.out.trans hm (fun _ _ h => h))
  clear hd hm
  go_wp2_with fail
  refine (rotE HX19.out HM19.out.size 0 1 3 e14).mono ?_
  rintro e w20 ⟨rfl, hd, hm⟩
  have HX20 := hid_ hd
  have HM20 := hid_ (HM19.out.trans hm (fun _ _ h => h))
  clear hd hm
  go_wp2_with fail
  refine (readE HX20.out 0 e15).mono ?_
  rintro e w21 ⟨rfl, hm⟩
  have HX21 := hid_ (HX20.out.mod hm)
  have HM21 := hid_ (HM20.out.trans hm (fun _ _ => False.elim))
  clear hm
  go_wp2_with fail
  refine (fillB _).mono ?_
  rintro e w22 ⟨rfl, hm⟩
  have HM22 := hid_ (HM21.out.trans hm (fun _ _ => False.elim))
  have HN22 := hid_ hm
  clear hm
  go_wp2_with fail
  refine (writeE (HX21.out.mod HN22.out) HM22.out.size 0 hB q_hX3 e16).mono ?_
  rintro e w23 ⟨rfl, hd, hm⟩
  have HX23 := hid_ hd
  have HM23 := hid_ (HM22.out.trans hm (fun _ _ h => h))
  clear hd hm
  go_wp2_with fail
  refine (fillA _).mono ?_
  rintro e w24 ⟨rfl, hm⟩
  have HM24 := hid_ (HM23.out.trans hm (fun _ _ => False.elim))
  have HN24 := hid_ hm
  clear hm
  have sA : (2 : Int) ≤ hA.size := sA_
  have zA : hA.size ≤ 64 := zA_
  have fY := fY_
  go_wp2_with fail
  refine (rawE (t := hRaw) (HX23.out.mod HN24.out) rfl).mono ?_
  rintro e w25 ⟨rfl, hm⟩
  have HM25 := hid_ (HM24.out.trans hm (fun _ _ => False.elim))
  clear hm
  have fR := fR_
  go_wp2_with fail
  refine (raw_nil _).mono ?_
  rintro e w' ⟨rfl, rfl⟩
  go_wp2_with fail
  refine (newB 1 _ (by decide) (by decide) HM25.out.size).mono ?_
  rintro e w26 ⟨HKd, rfl, hd, hm⟩
  have HK26 := hid_ hd
  have HM26 := hid_ (HM25.out.trans hm (fun _ _ => False.elim))
  clear hd hm
  go_wp2_with fail
  refine (armE HK26.out HM26.out.size 1 1 2 (by decide) e17).mono ?_
  rintro e w27 ⟨rfl, hd, hm⟩
  have HK27 := hid_ hd
  have HM27 := hid_ (HM26.out.trans hm (fun _ _ h => h))
  clear hd hm
  go_wp2_with fail
  refine (fillA _).mono ?_
  rintro e w28 ⟨rfl, hm⟩
  have HM28 := hid_ (HM27.out.trans hm (fun _ _ => False.elim))
  have HN28 := hid_ hm
  clear hm
  go_wp2_with fail
  refine (writeE (HK27.out.mod HN28.out) HM28.out.size 0 hA q_hK1 e18).mono ?_
  rintro e w29 ⟨rfl, hd, hm⟩
  have HK29 := hid_ hd
  have HM29 := hid_ (HM28.out.trans hm (fun _ _ h => h))
  clear hd hm
  go_wp2_with fail
  refine (fillB _).mono ?_
  rintro e w30 ⟨rfl, hm⟩
  have HM30 := hid_ (HM29.out.trans hm (fun _ _ => False.elim))
  have HN30 := hid_ hm
  clear hm
  go_wp2_with fail
  refine (writeE (HK29.out.mod HN30.out) HM30.out.size 0 hB q_hK2 e19).mono ?_
  rintro e w31 ⟨rfl, hd, hm⟩
  have HK31 := hid_ hd
  have HM31 := hid_ (HM30.out.trans hm (fun _ _ h => h))
  clear hd hm
  go_wp2_with fail
  refine (startE HK31.out HM31.out.size e20).mono ?_
  rintro e w32 ⟨rfl, hd, hm⟩
  have HK32 := hid_ hd
  have HM32 := hid_ (HM31.out.trans hm (fun _ _ h => h))
  clear hd hm
  go_wp2_with fail
  refine (readE HK32.out 0 e21).mono ?_
  rintro e w33 ⟨rfl, hm⟩
  have HK33 := hid_ (HK32.out.mod hm)
  have HM33 := hid_ (HM32.out.trans hm (fun _ _ => False.elim))
  clear hm
  go_wp2_with fail
  refine (fillA _).mono ?_
  rintro e w34 ⟨rfl, hm⟩
  have HM34 := hid_ (HM33.out.trans hm (fun _ _ => False.elim))
  have HN34 := hid_ hm
  clear hm
  have fV := fV_
  go_wp2_with fail
  refine (fillB _).mono ?_
  rintro e w35 ⟨rfl, hm⟩
  have HM35 := hid_ (HM34.out.trans hm (fun _ _ => False.elim))
  have HN35 := hid_ hm
  clear hm
  have fR0 := fR0_
  go_wp2_with fail
  refine (fillA _).mono ?_
  rintro e w36 ⟨rfl, hm⟩
  have HM36 := hid_ (HM35.out.trans hm (fun _ _ => False.elim))
  have HN36 := hid_ hm
  clear hm
  have fR1 := fR1_
  go_wp2_with fail
  refine (fillZ _).mono ?_
  rintro e w37 ⟨rfl, hm⟩
  have HM37 := hid_ (HM36.out.trans hm (fun _ _ => False.elim))
  have HN37 := hid_ hm
  clear hm
  have fR2 := fR2_
  go_wp2_with fail
  refine (sync_nil _).mono ?_
  rintro e w' ⟨rfl, rfl⟩
  go_wp2_with fail
  refine (fillA _).mono ?_
  rintro e w38 ⟨rfl, hm⟩
  have HM38 := hid_ (HM37.out.trans hm (fun _ _ => False.elim))
  have HN38 := hid_ hm
  clear hm
  go_wp2_with fail
  refine (write_nil 0 _ _).mono ?_
  rintro e w39 ⟨rfl, hm⟩
  have HM39 := hid_ (HM38.out.trans hm (fun _ _ => False.elim))
  clear hm
  go_wp2_with fail
  refine (new_bad 0 _ (by decide)).mono ?_
  rintro e w' ⟨rfl, rfl⟩
  go_wp2_with fail
  refine (new_bad 8001 _ (by decide)).mono ?_
  rintro e w' ⟨rfl, rfl⟩
  go_wp2_with fail
  go_returns
  exact ⟨rfl, HM39.out.mono (fun i hi h => absurd hi (Nat.not_lt.2 h))⟩

end Go.Proofs.Ytbioeeccbcaljaa
