/- The reference: near, Moved. -/
import Derived.Test.YtadiajlegajclaaL4
import Derived.Test.YtadiajlegajclaaW4
set_option linter.unusedVariables false
set_option linter.unusedSimpArgs false
namespace Go.Proofs.Ytadiajlegajclaa
open Go.RowKit

/-- While a list is appended to: the new element's block (made by operation nb), the new slice (na), the variable (ns). -/
structure PtG (nb na ns : Nat) (w wr : World) (B : Nat) (T : List Pt) (u : Pt) (u3 : Value) (L : Array Bool) (γ : Nat × Value × Value) (w' : World) : Prop where
  before : L.getD na false = false → Mod Nothing wr w' ∧ (L.getD nb false = true → Bk w' γ.1 24 [.int .i64 u.x, .int .i64 u.y])
  after : L.getD na false = true → w'.ownsRow B 24 2 γ.2.1 (T.length + 1) (ptCells (T ++ [u]))
  base : Mod Nothing w w'
  o : L.getD na false = true → L.getD nb false = true
  o0 : L.getD na false = true → L.getD 0 false = true
  o3 : L.getD ns false = true → L.getD na false = true
  q : L.getD ns false = false → γ.2.2 = u3
  r : L.getD ns false = true → γ.2.2 = γ.2.1
section
variable {nb na ns : Nat} {w wr : World} {B : Nat} {T : List Pt} {u : Pt} {u3 : Value} {L : Array Bool} {γ : Nat × Value × Value} {w' : World}
theorem PtG.skip (h : PtG nb na ns w wr B T u u3 L γ w') (i : Nat) (h1 : i ≠ nb) (h2 : i ≠ na) (h3 : i ≠ ns) : PtG nb na ns w wr B T u u3 (L.setIfInBounds i true) γ w' := by
  refine ⟨?_, ?_, h.base, ?_, ?_, ?_, ?_, ?_⟩
  · rw [getD_set_ne false h1, getD_set_ne false h2]; exact h.before
  · rw [getD_set_ne false h2]; exact h.after
  · rw [getD_set_ne false h1, getD_set_ne false h2]; exact h.o
  · rw [getD_set_ne false h2]; exact fun e => getD_set_true (h.o0 e)
  · rw [getD_set_ne false h2, getD_set_ne false h3]; exact h.o3
  · rw [getD_set_ne false h3]; exact h.q
  · rw [getD_set_ne false h3]; exact h.r
theorem PtG.none (h : PtG nb na ns w wr B T u u3 L γ w') (hu : L.getD 0 true = false) : γ.2.2 = u3 := by
  cases e : L.getD ns false with
  | false => exact h.q e
  | true => have := h.o0 (h.o3 e); rw [getD_un hu] at this; cases this
theorem PtG.new1 (h : PtG nb na ns w wr B T u u3 L γ w') (d1 : nb ≠ na) (d2 : nb ≠ ns) (d3 : nb ≠ 0) (hu : L.getD nb true = false) : PtG nb na ns w wr B T u u3 (L.setIfInBounds nb true) (w'.heap.size, γ.2) (w'.alloc (.cells #[.int .i64 u.x, .int .i64 u.y] 24)) := by
  have hl : L.getD na false = false := by
    cases e : L.getD na false with
    | false => rfl
    | true => have := h.o e; rw [getD_un hu] at this; cases this
  refine ⟨?_, ?_, h.base.alloc _, fun _ => getD_put hu, ?_, ?_, ?_, ?_⟩
  · rw [getD_set_ne false d1]
    exact fun _ => ⟨(h.before hl).1.alloc _, fun _ => Bk.new _ _ _⟩
  · rw [getD_set_ne false d1, hl]
    exact fun e => by cases e
  · rw [getD_set_ne false d1]; exact fun e => getD_set_true (h.o0 e)
  · rw [getD_set_ne false d2, getD_set_ne false d1]; exact h.o3
  · rw [getD_set_ne false d2]; exact h.q
  · rw [getD_set_ne false d2]; exact h.r
end

theorem rnear_any (w : World) (A : Option Addr) (c n : Nat) (l : List Pt) (hn : l.length = n) (hl : PtsAt w w.heap.size A l) (hm : n ≤ 8796093021952) :
    Calls Try.prog 31 #[.slice A n c] w (BPost (l.all nearB) w) := by
  have HL := hid_ hl
  have HN := hid_ hn
  clear hl hn
  go_enter Try.func31, Try.ntmps31
  go_wp2
  go_loopw [3] (fun v wr => ∃ k : Nat, k ≤ n ∧ v = .int .i64 k ∧ (l.take k).all nearB = true ∧ Mod Nothing w wr) (fun v _ => n - (intOf v).toNat)
  case atStart => exact ⟨0, Nat.zero_le _, rfl, rfl, Mod.refl _ _⟩
  case round =>
    obtain ⟨k, hk, rfl, hall, hmod⟩ := hrel
    have HA := hid_ hall
    have HM := hid_ hmod
    clear hall hmod
    by_cases hlt : k < n
    · obtain ⟨p, hp⟩ : ∃ p, l[k]? = some p := ⟨_, List.getElem?_eq_getElem (by rw [HN.out]; exact hlt)⟩
      obtain ⟨b, off, hA, hb, c0, c1⟩ := (HL.out.mod HM.out (Nat.le_refl _) (fun _ _ => id)) k p hp
      have HP := hid_ hp
      subst hA
      clear hp
      have v1 : (0 : Int) ≤ (k : Int) := by omega
      have v2 : (k : Int) < n := by omega
      go_wp2_with fail
      refine (ris_any p _).mono ?_
      rintro e w1 ⟨rfl, hm1⟩
      have HM1 := hid_ (HM.out.trans hm1 (fun _ _ h => h))
      clear hm1 c0 c1
      cases hnp : nearB p
      · go_wp2
        go_returns
        refine ⟨ret_bool ?_, HM1.out⟩
        have e : l.all nearB = false := by
          rw [Bool.eq_false_iff]
          intro ht
          have := List.all_eq_true.1 ht p (List.mem_of_getElem? HP.out)
          rw [hnp] at this
          cases this
        rw [e]
      · go_wp2
        go_roundw
        case rel => exact ⟨k + 1, by omega, by go_num, by rw [List.take_add_one, HP.out, List.all_append, HA.out]; simp [hnp], HM1.out⟩
        case measure => simp [intOf]; omega
    · have hkn : k = n := by omega
      subst hkn
      have ht : l.take k = l := List.take_of_length_le (by rw [HN.out]; exact Nat.le_refl _)
      rw [ht] at HA
      clear ht
      go_wp2
      go_returns
      exact ⟨ret_bool HA.out.symm, HM.out⟩

def shift (d p : Pt) : Pt := ⟨p.x + d.x, p.y + d.y⟩
/-- What Moved reports. -/
def movedB (l : List Pt) (d : Pt) : Bool := l.all (fun p => nearB p && nearB d) && (l.map (shift d)).all nearB
def MovedPost (l : List Pt) (d : Pt) (w : World) (e : Ending) (w' : World) : Prop :=
  ∃ v, e = .returned (.tuple #[v, .bool (movedB l d)]) ∧ (∃ A m c, v = .slice A m c) ∧ (movedB l d = true → OwnPts w' v (l.map (shift d))) ∧ Mod Nothing w w'

set_option maxRecDepth 100000 in
set_option maxHeartbeats 8000000 in
theorem moved_any (w : World) (A : Option Addr) (c n : Nat) (l : List Pt) (d : Pt) (hn : l.length = n) (hl : PtsAt w w.heap.size A l) (hm : n ≤ 8796093021952) :
    Calls Try.prog 18 #[.slice A n c, ptV d] w (MovedPost l d w) := by
  have HL := hid_ hl
  have HN := hid_ hn
  obtain ⟨i0, hi0, hz0, hz1, hz2⟩ := info_parts Try.info24
  have HI0 := hid_ hi0
  have HZ0 := hid_ hz0
  have HZ1 := hid_ hz1
  have HZ2 := hid_ hz2
  clear hl hn hi0 hz0 hz1 hz2
  go_enter Try.func18, Try.ntmps18
  go_wp2_with fail
  obtain ⟨w0, hw0⟩ : ∃ w0, w0 = w.alloc (.cells #[.int .i64 d.x, .int .i64 d.y] 24) := ⟨_, rfl⟩
  have HBY0 := hid_ (Bk.new w 24 [.int .i64 d.x, .int .i64 d.y])
  have HM0 := hid_ ((Mod.refl Nothing w).alloc (.cells #[.int .i64 d.x, .int .i64 d.y] 24))
  have hs0 : w.heap.size ≤ w0.heap.size := by rw [hw0]; simp
  rw [← hw0] at HM0 ⊢
  have HBY0 : Hid (Bk w0 w.heap.size 24 [.int .i64 d.x, .int .i64 d.y]) := by rw [hw0]; exact HBY0
  clear hw0
  go_loopw [6, 7] (fun v i wr => ∃ k : Nat, k ≤ n ∧ i = .int .i64 k ∧ wr.ownsRow w0.heap.size 24 2 v k (ptCells ((l.map (shift d)).take k)) ∧ (l.take k).all (fun p => nearB p && nearB d) = true ∧ Mod Nothing w0 wr) (fun _ i _ => n - (intOf i).toNat)
  case atStart => exact ⟨0, Nat.zero_le _, rfl, World.ownsRow_nil _ _ _ _, rfl, Mod.refl _ _⟩
  case round =>
    obtain ⟨k, hk, rfl, hown, hall, hmd⟩ := hrel
    have HO := hid_ hown
    have HA := hid_ hall
    have HM := hid_ hmd
    clear hown hall hmd
    by_cases hlt : k < n
    · obtain ⟨p, hp⟩ : ∃ p, l[k]? = some p := ⟨_, List.getElem?_eq_getElem (by rw [HN.out]; exact hlt)⟩
      obtain ⟨bb, off, hA, hbw, q0, q1⟩ := (HL.out.mod HM0.out (Nat.le_refl _) (fun _ _ => id)) k p hp
      have hbw : bb < w0.heap.size := Nat.lt_of_lt_of_le hbw hs0
      have p0 := (HM.out.cell (p := ⟨bb, off + k * 2, none⟩) hbw id).trans q0
      have p1 := (HM.out.cell (p := ⟨bb, off + k * 2 + 1, none⟩) hbw id).trans q1
      have hbr : bb < wr.heap.size := Nat.lt_of_lt_of_le hbw HM.out.size
      have v1 : (0 : Int) ≤ (k : Int) := by omega
      have v2 : (k : Int) < n := by omega
      have HP := hid_ hp
      have HBY := hid_ HBY0.out
      have hfull : movedB l d = true → nearB p = true ∧ nearB d = true := fun h => by
        unfold movedB at h
        rw [Bool.and_eq_true, List.all_eq_true] at h
        have := h.1 p (List.mem_of_getElem? hp)
        rwa [Bool.and_eq_true] at this
      have HF := hid_ hfull
      subst hA
      clear hp hfull
      go_wp2_with fail
      refine (ris_any p _).mono ?_
      rintro e w1 ⟨rfl, hm1⟩
      have HM1 := hid_ (HM.out.trans hm1 (fun _ _ h => h))
      have HO1 := hid_ (own_keep HO.out (fun k hk => hm1.block k (own_lt HO.out hk) id))
      clear hm1 p0 p1
      cases hnp : nearB p
      · have hno : movedB l d = false := by
          cases e : movedB l d with
          | false => rfl
          | true => rw [(HF.out e).1] at hnp; cases hnp
        go_wp2
        go_returns
        exact ⟨.slice none 0 0, (by rw [hno]; rfl), ⟨_, _, _, rfl⟩, fun e => (by rw [hno] at e; cases e), HM0.out.trans HM1.out (fun _ _ h => h)⟩
      · have HK1 := hid_ hnp
        clear hnp
        obtain ⟨d0, d1, -, -, hdl⟩ := (HM1.out.bk HBY.out id).two
        go_wp2_with fail
        refine (ris_any d _).mono ?_
        rintro e wr2 ⟨rfl, hm2⟩
        have HM2 := hid_ (HM1.out.trans hm2 (fun _ _ h => h))
        have HO := hid_ (own_keep HO1.out (fun k hk => hm2.block k (own_lt HO1.out hk) id))
        clear hm2 d0 d1 hdl
        cases hnd : nearB d
        · have hno : movedB l d = false := by
            cases e : movedB l d with
            | false => rfl
            | true => rw [(HF.out e).2] at hnd; cases hnd
          go_wp2
          go_returns
          exact ⟨.slice none 0 0, (by rw [hno]; rfl), ⟨_, _, _, rfl⟩, fun e => (by rw [hno] at e; cases e), HM0.out.trans HM2.out (fun _ _ h => h)⟩
        · have HK2 := hid_ hnd
          have np := nearB_iff.1 HK1.out
          have nd := nearB_iff.1 HK2.out
          have v3 : IntKind.i64.wrap (p.x + d.x) = p.x + d.x := IntWalk.i64_in _ (by omega)
          have v4 : IntKind.i64.wrap (p.y + d.y) = p.y + d.y := IntWalk.i64_in _ (by omega)
          have HKL := hid_ (show ((l.map (shift d)).take k).length = k by rw [List.length_take, List.length_map, HN.out]; omega)
          clear hnd np nd
          go_wp2_with fail
          refine wp_region_late [(20, 6)] (0, u6, u6) (fun γ => [u6, .slice (some ⟨bb, off, none⟩) n c, .int .i64 k, .pointer (some ⟨bb, off + k * 2, none⟩), .pointer (some ⟨bb, off + k * 2, none⟩), .int .i64 p.x, .pointer (some ⟨w.heap.size, 0, none⟩), .int .i64 d.x, .int .i64 (p.x + d.x), .slice (some ⟨bb, off, none⟩) n c, .int .i64 k, .pointer (some ⟨bb, off + k * 2, none⟩), .pointer (some ⟨bb, off + k * 2 + 1, none⟩), .int .i64 p.y, .pointer (some ⟨w.heap.size, 1, none⟩), .int .i64 d.y, .int .i64 (p.y + d.y), ptV (shift d p), .slice (some ⟨γ.1, 0, none⟩) 1 1, γ.2.1, γ.2.2]) (PtG 18 19 20 w0 wr2 w0.heap.size ((l.map (shift d)).take k) (shift d p) u6) (by kernel_rfl) (by kernel_rfl)
            (fun γ => by simp only [putAll, Act.put, List.setIfInBounds_toArray, List.set_cons_zero, List.set_cons_succ]; rfl) ?_ (⟨fun _ => ⟨(Mod.refl _ _).drew, fun h => by simp at h⟩, fun h => by simp at h, HM2.out.drew, fun h => by simp at h, fun h => by simp at h, fun h => by simp at h, fun _ => rfl, fun h => by simp at h⟩) ?_ ?_
          · intro L γ w' hC p hp hl
            simp only [List.mem_cons, List.not_mem_nil, or_false] at hp
            subst hp
            have e := hC.q hl
            show some γ.2.2 = some u6
            rw [e]
          · refine ⟨?_, ?_, ?_, ?_, ?_, ?_, ?_, ?_, ?_, ?_, ?_, ?_, ?_, ?_, ?_, ?_, ?_, ?_, ?_, ?_, ?_, trivial⟩
            · intro L γ w' hun hw hC
              refine step_yes rfl ?_
              have HC := hid_ hC
              have e := (hC.none hun).symm
              clear hun hw hC
              obtain ⟨g1, g2, g3⟩ := γ
              cases e
              go_simp
              exact turned (g1, g2, _) rfl (HC.out.skip 0 (by decide) (by decide) (by decide))
            · intro L γ w' hun hw hC
              refine step_yes rfl ?_
              have HC := hid_ hC
              clear hun hw hC
              go_simp
              exact turned γ rfl (HC.out.skip 1 (by decide) (by decide) (by decide))
            · intro L γ w' hun hw hC
              refine step_yes rfl ?_
              have HC := hid_ hC
              clear hun hw hC
              go_simp
              exact turned γ rfl (HC.out.skip 2 (by decide) (by decide) (by decide))
            · intro L γ w' hun hw hC
              refine step_yes rfl ?_
              have HC := hid_ hC
              clear hun hw hC
              go_simp
              exact turned γ rfl (HC.out.skip 3 (by decide) (by decide) (by decide))
            · intro L γ w' hun hw hC
              refine step_yes rfl ?_
              have HC := hid_ hC
              clear hun hw hC
              go_simp
              exact turned γ rfl (HC.out.skip 4 (by decide) (by decide) (by decide))
            · intro L γ w' hun hw hC
              refine step_yes rfl ?_
              have HC := hid_ hC
              have c0 := (HC.out.base.cell (p := ⟨bb, off + k * 2, none⟩) hbw id).trans q0
              clear hun hw hC
              go_simp
              exact turned γ rfl (HC.out.skip 5 (by decide) (by decide) (by decide))
            · intro L γ w' hun hw hC
              refine step_yes rfl ?_
              have HC := hid_ hC
              clear hun hw hC
              go_simp
              exact turned γ rfl (HC.out.skip 6 (by decide) (by decide) (by decide))
            · intro L γ w' hun hw hC
              refine step_yes rfl ?_
              have HC := hid_ hC
              obtain ⟨d0, d1, -, -, hdl⟩ := (HC.out.base.bk HBY.out id).two
              clear hun hw hC
              go_simp
              exact turned γ rfl (HC.out.skip 7 (by decide) (by decide) (by decide))
            · intro L γ w' hun hw hC
              refine step_yes rfl ?_
              have HC := hid_ hC
              clear hun hw hC
              go_simp
              exact turned γ rfl (HC.out.skip 8 (by decide) (by decide) (by decide))
            · intro L γ w' hun hw hC
              refine step_yes rfl ?_
              have HC := hid_ hC
              clear hun hw hC
              go_simp
              exact turned γ rfl (HC.out.skip 9 (by decide) (by decide) (by decide))
            · intro L γ w' hun hw hC
              refine step_yes rfl ?_
              have HC := hid_ hC
              clear hun hw hC
              go_simp
              exact turned γ rfl (HC.out.skip 10 (by decide) (by decide) (by decide))
            · intro L γ w' hun hw hC
              refine step_yes rfl ?_
              have HC := hid_ hC
              clear hun hw hC
              go_simp
              exact turned γ rfl (HC.out.skip 11 (by decide) (by decide) (by decide))
            · intro L γ w' hun hw hC
              refine step_yes rfl ?_
              have HC := hid_ hC
              clear hun hw hC
              go_simp
              exact turned γ rfl (HC.out.skip 12 (by decide) (by decide) (by decide))
            · intro L γ w' hun hw hC
              refine step_yes rfl ?_
              have HC := hid_ hC
              have c1 := (HC.out.base.cell (p := ⟨bb, off + k * 2 + 1, none⟩) hbw id).trans q1
              clear hun hw hC
              go_simp
              exact turned γ rfl (HC.out.skip 13 (by decide) (by decide) (by decide))
            · intro L γ w' hun hw hC
              refine step_yes rfl ?_
              have HC := hid_ hC
              clear hun hw hC
              go_simp
              exact turned γ rfl (HC.out.skip 14 (by decide) (by decide) (by decide))
            · intro L γ w' hun hw hC
              refine step_yes rfl ?_
              have HC := hid_ hC
              obtain ⟨d0, d1, -, -, hdl⟩ := (HC.out.base.bk HBY.out id).two
              clear hun hw hC
              go_simp
              exact turned γ rfl (HC.out.skip 15 (by decide) (by decide) (by decide))
            · intro L γ w' hun hw hC
              refine step_yes rfl ?_
              have HC := hid_ hC
              clear hun hw hC
              go_simp
              exact turned γ rfl (HC.out.skip 16 (by decide) (by decide) (by decide))
            · intro L γ w' hun hw hC
              refine step_yes rfl ?_
              have HC := hid_ hC
              clear hun hw hC
              go_simp
              exact turned γ rfl (HC.out.skip 17 (by decide) (by decide) (by decide))
            · intro L γ w' hun hw hC
              refine step_yes rfl ?_
              have HC := hid_ hC
              have HU := hid_ hun
              clear hun hw hC
              go_simp
              exact turned (_, γ.2) rfl (HC.out.new1 (by decide) (by decide) (by decide) HU.out)
            · intro L γ w' hun hw hC
              refine step_yes rfl ?_
              have h18 : L.getD 18 false = true := hw ⟨18, .data⟩ (by simp) rfl
              obtain ⟨hb1, hb2⟩ := hC.before (getD_un hun)
              have hown := own_keep HO.out (fun k hk => hb1.block k (own_lt HO.out hk) id)
              refine wp_append_lies _ (.tmp 25) (.tmp 43) 22 rfl w0.heap.size 24 i0 _ 2 16 Try.underlying22 HI0.out HZ0.out HZ1.out HZ2.out rfl (by decide) u6 k (ptCells ((l.map (shift d)).take k)) rfl hown ⟨γ.1, 0, none⟩ 1 1 (ptCells [shift d p]) rfl rfl (World.news_of_block (cs := #[.int .i64 (shift d p).x, .int .i64 (shift d p).y]) (t := 24) (fr := (0, 0)) (hb2 h18)) (ptCells_one _) (by decide) (by unfold maxLen; omega) (by omega) hC.base.size _ rfl ?_
              intro g' cap w5 hown5 hgrow5 hat5 hlt5
              refine turned (γ.1, .slice (some ⟨g', 0, none⟩) (k + 1) cap, γ.2.2) rfl ⟨fun e => (by rw [getD_put hun] at e; cases e), fun _ => ?_, hC.base.grown hgrow5 (fun k hk hl => absurd hl (by have := own_ge hown hk; omega)), fun _ => by rw [getD_set_ne false (by decide)]; exact h18, fun _ => by rw [getD_set_ne false (by decide)]; exact hw ⟨0, .data⟩ (by simp) rfl, fun _ => getD_put hun, ?_, ?_⟩
              rotate_left
              · rw [getD_set_ne false (by decide)]; exact hC.q
              · rw [getD_set_ne false (by decide)]; exact fun e => by have := hC.o3 e; rw [getD_un hun] at this; cases this
              rw [ptCells_append, HKL.out]
              exact hown5
            · intro L γ w' hun hw hC
              refine step_yes rfl ?_
              have h12 : L.getD 19 false = true := hw ⟨19, .data⟩ (by simp) rfl
              have HC := hid_ hC
              have HU := hid_ (show (L.setIfInBounds 20 true).getD 20 false = true from getD_put hun)
              clear hun hw hC
              go_simp
              refine turned (γ.1, γ.2.1, γ.2.1) rfl ⟨fun e => (by rw [getD_set_ne false (by decide), h12] at e; cases e), fun _ => HC.out.after h12, HC.out.base, ?_, ?_, ?_, fun e => (by have := HU.out.symm.trans e; cases this), fun _ => rfl⟩
              · rw [getD_set_ne false (by decide), getD_set_ne false (by decide)]; exact HC.out.o
              · rw [getD_set_ne false (by decide), getD_set_ne false (by decide)]; exact HC.out.o0
              · exact fun _ => getD_set_true h12
          · intro L γ w' hall hC
            have ho := hC.after (hall 19 (by decide))
            have er := hC.r (hall 20 (by decide))
            rw [← er] at ho
            have HX2 := hid_ (⟨ho, hC.base⟩ : w'.ownsRow w0.heap.size 24 2 γ.2.2 (((l.map (shift d)).take k).length + 1) (ptCells ((l.map (shift d)).take k ++ [shift d p])) ∧ Mod Nothing w0 w')
            clear er
            clear ho hC hall
            go_wp2
            go_roundw
            case rel =>
              obtain ⟨h1, h2⟩ := HX2.out
              rw [HKL.out] at h1
              exact ⟨k + 1, by omega, by go_num, by rw [List.take_add_one, List.getElem?_map, HP.out]; exact h1, by rw [List.take_add_one, HP.out, List.all_append, HA.out]; simp [HK1.out, HK2.out], h2⟩
            case measure => simp [intOf]; omega
    · have hkn : k = n := by omega
      subst hkn
      have e : l.take k = l := List.take_of_length_le (by rw [HN.out]; exact Nat.le_refl _)
      have e' : (l.map (shift d)).take k = l.map (shift d) := List.take_of_length_le (by rw [List.length_map, HN.out]; exact Nat.le_refl _)
      have h1 := HO.out
      have h2 := HA.out
      rw [e'] at h1
      rw [e] at h2
      have hown : OwnPts wr u6 (l.map (shift d)) := own_base (by rw [List.length_map, HN.out]; exact h1)
      obtain ⟨A2, c2, hu6, hat, _⟩ := hown.form
      rw [List.length_map, HN.out] at hu6
      subst hu6
      have HOW := hid_ hown
      have HAT := hid_ hat
      have HAL := hid_ h2
      clear e e' h1 h2 hown hat HO HA
      go_wp2_with fail
      refine (rnear_any _ A2 c2 k (l.map (shift d)) (by rw [List.length_map, HN.out]) HAT.out (by omega)).mono ?_
      rintro e w9 ⟨rfl, hm9⟩
      have HM9 := hid_ (HM.out.trans hm9 (fun _ _ h => h))
      have HO9 := hid_ (own_keep HOW.out (fun k hk => hm9.block k (own_lt HOW.out hk) id))
      have hmb : movedB l d = l.all (nearB ∘ shift d) := by unfold movedB; rw [HAL.out, Bool.true_and, List.all_map]
      clear hm9
      go_wp2
      go_returns
      exact ⟨.slice A2 k c2, (by rw [hmb]; rfl), ⟨_, _, _, rfl⟩, fun _ => HO9.out, HM0.out.trans HM9.out (fun _ _ h => h)⟩
end Go.Proofs.Ytadiajlegajclaa
