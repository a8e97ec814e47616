/- points. -/
import Derived.Test.YtadiajlegajclaaL1
import Derived.Test.YtadiajlegajclaaW4
set_option linter.unusedVariables false
set_option linter.unusedSimpArgs false
namespace Go.Proofs.Ytadiajlegajclaa
open Go.RowKit

/-- Points from their coordinates. -/
def ptsOf : List Int → List Pt
  | x :: y :: r => ⟨x, y⟩ :: ptsOf r
  | _ => []
theorem ptsOf_len : ∀ (n : Nat) (l : List Int), l.length = n → (ptsOf l).length = n / 2
  | 0, [], _ => rfl
  | 1, [x], _ => rfl
  | n + 2, x :: y :: r, h => by
    have := ptsOf_len n r (by simpa using h)
    show (ptsOf r).length + 1 = _
    omega
theorem ptsOf_get : ∀ (l : List Int) (k : Nat) (x y : Int), l[k * 2]? = some x → l[k * 2 + 1]? = some y → (ptsOf l)[k]? = some ⟨x, y⟩
  | [], k, x, y, h, _ => by simp at h
  | [a], k, x, y, h0, h1 => by simp at h1
  | a :: c :: r, 0, x, y, h0, h1 => by
    simp at h0 h1
    subst h0; subst h1; rfl
  | a :: c :: r, k + 1, x, y, h0, h1 => by
    have e0 : (a :: c :: r)[(k + 1) * 2]? = r[k * 2]? := by rw [show (k + 1) * 2 = k * 2 + 1 + 1 by omega]; simp
    have e1 : (a :: c :: r)[(k + 1) * 2 + 1]? = r[k * 2 + 1]? := by rw [show (k + 1) * 2 + 1 = k * 2 + 1 + 1 + 1 by omega]; simp
    rw [e0] at h0
    rw [e1] at h1
    exact ptsOf_get r k x y h0 h1

/-- While points appends: the new element's block, the new slice, the variable. -/
structure PtC (w wr : World) (B : Nat) (T : List Pt) (u : Pt) (u3 : Value) (L : Array Bool) (γ : Nat × Value × Value) (w' : World) : Prop where
  before : L.getD 12 false = false → Mod Nothing wr w' ∧ (L.getD 11 false = true → Bk w' γ.1 24 [.int .i64 u.x, .int .i64 u.y])
  after : L.getD 12 false = true → w'.ownsRow B 24 2 γ.2.1 (T.length + 1) (ptCells (T ++ [u]))
  base : Mod Nothing w w'
  o : L.getD 12 false = true → L.getD 11 false = true
  o0 : L.getD 12 false = true → L.getD 0 false = true
  o3 : L.getD 13 false = true → L.getD 12 false = true
  q : L.getD 13 false = false → γ.2.2 = u3
  r : L.getD 13 false = true → γ.2.2 = γ.2.1
theorem PtC.skip {w wr : World} {B : Nat} {T : List Pt} {u : Pt} {u3 : Value} {L : Array Bool} {γ : Nat × Value × Value} {w' : World} (h : PtC w wr B T u u3 L γ w') (i : Nat) (h1 : i ≠ 11) (h2 : i ≠ 12) (h3 : i ≠ 13) : PtC w wr B T u u3 (L.setIfInBounds i true) γ w' := by
  refine ⟨?_, ?_, h.base, ?_, ?_, ?_, ?_, ?_⟩
  · rw [getD_set_ne false h1, getD_set_ne false h2]; exact h.before
  · rw [getD_set_ne false h2]; exact h.after
  · rw [getD_set_ne false h1, getD_set_ne false h2]; exact h.o
  · rw [getD_set_ne false h2]; exact fun e => getD_set_true (h.o0 e)
  · rw [getD_set_ne false h2, getD_set_ne false h3]; exact h.o3
  · rw [getD_set_ne false h3]; exact h.q
  · rw [getD_set_ne false h3]; exact h.r
theorem PtC.none {w wr : World} {B : Nat} {T : List Pt} {u : Pt} {u3 : Value} {L : Array Bool} {γ : Nat × Value × Value} {w' : World} (h : PtC w wr B T u u3 L γ w') (hu : L.getD 0 true = false) : γ.2.2 = u3 := by
  cases e : L.getD 13 false with
  | false => exact h.q e
  | true => have := h.o0 (h.o3 e); rw [getD_un hu] at this; cases this
theorem PtC.new1 {w wr : World} {B : Nat} {T : List Pt} {u : Pt} {u3 : Value} {L : Array Bool} {γ : Nat × Value × Value} {w' : World} (h : PtC w wr B T u u3 L γ w') (hu : L.getD 11 true = false) : PtC w wr B T u u3 (L.setIfInBounds 11 true) (w'.heap.size, γ.2) (w'.alloc (.cells #[.int .i64 u.x, .int .i64 u.y] 24)) := by
  have hl : L.getD 12 false = false := by
    cases e : L.getD 12 false with
    | false => rfl
    | true => have := h.o e; rw [getD_un hu] at this; cases this
  refine ⟨?_, ?_, h.base.alloc _, fun _ => getD_put hu, ?_, ?_, ?_, ?_⟩
  · rw [getD_set_ne false (by decide)]
    exact fun _ => ⟨(h.before hl).1.alloc _, fun _ => Bk.new _ _ _⟩
  · rw [getD_set_ne false (by decide), hl]
    exact fun e => by cases e
  · rw [getD_set_ne false (by decide)]; exact fun e => getD_set_true (h.o0 e)
  · rw [getD_set_ne false (by decide), getD_set_ne false (by decide)]; exact h.o3
  · rw [getD_set_ne false (by decide)]; exact h.q
  · rw [getD_set_ne false (by decide)]; exact h.r

set_option maxRecDepth 100000 in
set_option maxHeartbeats 4000000 in
theorem points_any (w : World) (g n : Nat) (xs : List Int) (hn : xs.length = n) (hl : Bk w g 3 (xs.map fun x => .int .i64 x)) (hm : n ≤ 1000) :
    Calls Try.prog 25 #[.slice (some ⟨g, 0, none⟩) n n] w fun e w' => ∃ v, e = .returned v ∧ OwnPts w' v (ptsOf xs) ∧ Mod Nothing w w' := by
  have HL := hid_ hl
  have HN := hid_ hn
  obtain ⟨i0, hi0, hz0, hz1, hz2⟩ := info_parts Try.info24
  have HI0 := hid_ hi0
  have HZ0 := hid_ hz0
  have HZ1 := hid_ hz1
  have HZ2 := hid_ hz2
  clear hl hn hi0 hz0 hz1 hz2
  go_enter Try.func25, Try.ntmps25
  go_wp2_with fail
  go_loopw [3, 4] (fun v i wr => ∃ k : Nat, k * 2 ≤ n ∧ i = .int .i64 ((k * 2 : Nat) : Int) ∧ wr.ownsRow w.heap.size 24 2 v k (ptCells ((ptsOf xs).take k)) ∧ Mod Nothing w wr) (fun _ i _ => n - (intOf i).toNat)
  case atStart => exact ⟨0, Nat.zero_le _, rfl, World.ownsRow_nil _ _ _ _, Mod.refl _ _⟩
  case round =>
    obtain ⟨k, hk, rfl, hown, hmd⟩ := hrel
    have HO := hid_ hown
    have HM := hid_ hmd
    clear hown hmd
    obtain ⟨k2, hk2⟩ : ∃ k2, k2 = k * 2 := ⟨_, rfl⟩
    rw [← hk2] at hk ⊢
    have HK2 := hid_ hk2
    clear hk2
    by_cases hlt : k2 + 1 < n
    · obtain ⟨x, hx⟩ : ∃ x, xs[k2]? = some x := ⟨_, List.getElem?_eq_getElem (by rw [HN.out]; omega)⟩
      obtain ⟨y, hy⟩ : ∃ y, xs[k2 + 1]? = some y := ⟨_, List.getElem?_eq_getElem (by rw [HN.out]; omega)⟩
      have hb := HM.out.bk HL.out id
      have x0 := hb.cell k2
      have y0 := hb.cell (k2 + 1)
      have hgl := hb.lt
      rw [List.getElem?_map, hx] at x0
      rw [List.getElem?_map, hy] at y0
      simp only [Option.map_some] at x0 y0
      have HPT := hid_ (ptsOf_get xs k x y (by rw [← HK2.out]; exact hx) (by rw [← HK2.out]; exact hy))
      have hkl : k < (ptsOf xs).length := (List.getElem?_eq_some_iff.1 HPT.out).1
      have HKL := hid_ (show ((ptsOf xs).take k).length = k by rw [List.length_take]; omega)
      have v1 : (0 : Int) ≤ (k2 : Int) := by omega
      have v2 : (k2 : Int) < n := by omega
      have v3 : IntKind.i64.wrap ((k2 : Int) + 1) = (k2 : Int) + 1 := IntWalk.i64_in _ (by omega)
      have v4 : (0 : Int) ≤ (k2 : Int) + 1 := by omega
      have v5 : (k2 : Int) + 1 < n := by omega
      have v6 : ((k2 : Int) + 1).toNat = k2 + 1 := by omega
      have hkk : k ≤ 1000 := by have := HK2.out; omega
      have HX := hid_ hx
      have HY := hid_ hy
      clear hx hy hb hkl
      go_wp2_with fail
      refine wp_region_late [(13, 3)] (0, u3, u3) (fun γ => [u3, .slice (some ⟨g, 0, none⟩) n n, .int .i64 k2, .pointer (some ⟨g, k2, none⟩), .int .i64 x, .slice (some ⟨g, 0, none⟩) n n, .int .i64 k2, .int .i64 ((k2 : Int) + 1), .pointer (some ⟨g, k2 + 1, none⟩), .int .i64 y, ptV ⟨x, y⟩, .slice (some ⟨γ.1, 0, none⟩) 1 1, γ.2.1, γ.2.2]) (PtC w wr w.heap.size ((ptsOf xs).take k) ⟨x, y⟩ u3) (by kernel_rfl) (by kernel_rfl)
        (fun γ => by simp only [putAll, Act.put, List.setIfInBounds_toArray, List.set_cons_zero, List.set_cons_succ]; rfl) ?_ (⟨fun _ => ⟨(Mod.refl _ _).drew, fun h => by simp at h⟩, fun h => by simp at h, HM.out.drew, fun h => by simp at h, fun h => by simp at h, fun h => by simp at h, fun _ => rfl, fun h => by simp at h⟩) ?_ ?_
      · intro L γ w' hC p hp hl
        simp only [List.mem_cons, List.not_mem_nil, or_false] at hp
        subst hp
        have e := hC.q hl
        show some γ.2.2 = some u3
        rw [e]
      · refine ⟨?_, ?_, ?_, ?_, ?_, ?_, ?_, ?_, ?_, ?_, ?_, ?_, ?_, ?_, trivial⟩
        · intro L γ w' hun hw hC
          refine step_yes rfl ?_
          have HC := hid_ hC
          have e := (hC.none hun).symm
          clear hun hw hC
          obtain ⟨g1, g2, g3⟩ := γ
          cases e
          go_simp
          exact turned (g1, g2, _) rfl (HC.out.skip 0 (by decide) (by decide) (by decide))
        · intro L γ w' hun hw hC
          refine step_yes rfl ?_
          have HC := hid_ hC
          clear hun hw hC
          go_simp
          exact turned γ rfl (HC.out.skip 1 (by decide) (by decide) (by decide))
        · intro L γ w' hun hw hC
          refine step_yes rfl ?_
          have HC := hid_ hC
          clear hun hw hC
          go_simp
          exact turned γ rfl (HC.out.skip 2 (by decide) (by decide) (by decide))
        · intro L γ w' hun hw hC
          refine step_yes rfl ?_
          have HC := hid_ hC
          clear hun hw hC
          go_simp
          exact turned γ rfl (HC.out.skip 3 (by decide) (by decide) (by decide))
        · intro L γ w' hun hw hC
          refine step_yes rfl ?_
          have HC := hid_ hC
          have hb := hC.base.bk HL.out id
          have c0 := hb.cell k2
          rw [List.getElem?_map, HX.out] at c0
          simp only [Option.map_some] at c0
          have hgl := hb.lt
          clear hb
          clear hun hw hC
          go_simp
          exact turned γ rfl (HC.out.skip 4 (by decide) (by decide) (by decide))
        · intro L γ w' hun hw hC
          refine step_yes rfl ?_
          have HC := hid_ hC
          clear hun hw hC
          go_simp
          exact turned γ rfl (HC.out.skip 5 (by decide) (by decide) (by decide))
        · intro L γ w' hun hw hC
          refine step_yes rfl ?_
          have HC := hid_ hC
          clear hun hw hC
          go_simp
          exact turned γ rfl (HC.out.skip 6 (by decide) (by decide) (by decide))
        · intro L γ w' hun hw hC
          refine step_yes rfl ?_
          have HC := hid_ hC
          clear hun hw hC
          go_simp
          exact turned γ rfl (HC.out.skip 7 (by decide) (by decide) (by decide))
        · intro L γ w' hun hw hC
          refine step_yes rfl ?_
          have HC := hid_ hC
          clear hun hw hC
          go_simp
          exact turned γ rfl (HC.out.skip 8 (by decide) (by decide) (by decide))
        · intro L γ w' hun hw hC
          refine step_yes rfl ?_
          have HC := hid_ hC
          have hb := hC.base.bk HL.out id
          have c0 := hb.cell (k2 + 1)
          rw [List.getElem?_map, HY.out] at c0
          simp only [Option.map_some] at c0
          have hgl := hb.lt
          clear hb
          clear hun hw hC
          go_simp
          exact turned γ rfl (HC.out.skip 9 (by decide) (by decide) (by decide))
        · intro L γ w' hun hw hC
          refine step_yes rfl ?_
          have HC := hid_ hC
          clear hun hw hC
          go_simp
          exact turned γ rfl (HC.out.skip 10 (by decide) (by decide) (by decide))
        · intro L γ w' hun hw hC
          refine step_yes rfl ?_
          have HC := hid_ hC
          have HU := hid_ hun
          clear hun hw hC
          go_simp
          exact turned (_, γ.2) rfl (HC.out.new1 HU.out)
        · intro L γ w' hun hw hC
          refine step_yes rfl ?_
          have h11 : L.getD 11 false = true := hw ⟨11, .data⟩ (by simp) rfl
          obtain ⟨hb1, hb2⟩ := hC.before (getD_un hun)
          have hown := own_keep HO.out (fun k hk => hb1.block k (own_lt HO.out hk) id)
          refine wp_append_lies _ (.tmp 12) (.tmp 23) 22 rfl w.heap.size 24 i0 _ 2 16 Try.underlying22 HI0.out HZ0.out HZ1.out HZ2.out rfl (by decide) u3 k (ptCells ((ptsOf xs).take k)) rfl hown ⟨γ.1, 0, none⟩ 1 1 (ptCells [⟨x, y⟩]) rfl rfl (World.news_of_block (cs := #[.int .i64 x, .int .i64 y]) (t := 24) (fr := (0, 0)) (hb2 h11)) (ptCells_one _) (by decide) (by unfold maxLen; omega) (by omega) hC.base.size _ rfl ?_
          intro g' cap w5 hown5 hgrow5 hat5 hlt5
          refine turned (γ.1, .slice (some ⟨g', 0, none⟩) (k + 1) cap, γ.2.2) rfl ⟨fun e => (by rw [getD_put hun] at e; cases e), fun _ => ?_, hC.base.grown hgrow5 (fun k hk hl => absurd hl (by have := own_ge hown hk; omega)), fun _ => by rw [getD_set_ne false (by decide)]; exact h11, fun _ => by rw [getD_set_ne false (by decide)]; exact hw ⟨0, .data⟩ (by simp) rfl, fun _ => getD_put hun, ?_, ?_⟩
          rotate_left
          · rw [getD_set_ne false (by decide)]; exact hC.q
          · rw [getD_set_ne false (by decide)]; exact fun e => by have := hC.o3 e; rw [getD_un hun] at this; cases this
          rw [ptCells_append, HKL.out]
          exact hown5
        · intro L γ w' hun hw hC
          refine step_yes rfl ?_
          have h12 : L.getD 12 false = true := hw ⟨12, .data⟩ (by simp) rfl
          have HC := hid_ hC
          have HU := hid_ (show (L.setIfInBounds 13 true).getD 13 false = true from getD_put hun)
          clear hun hw hC
          go_simp
          refine turned (γ.1, γ.2.1, γ.2.1) rfl ⟨fun e => (by rw [getD_set_ne false (by decide), h12] at e; cases e), fun _ => HC.out.after h12, HC.out.base, ?_, ?_, ?_, fun e => (by have := HU.out.symm.trans e; cases this), fun _ => rfl⟩
          · rw [getD_set_ne false (by decide), getD_set_ne false (by decide)]; exact HC.out.o
          · rw [getD_set_ne false (by decide), getD_set_ne false (by decide)]; exact HC.out.o0
          · exact fun _ => getD_set_true h12
      · intro L γ w' hall hC
        have ho := hC.after (hall 12 (by decide))
        have er := hC.r (hall 13 (by decide))
        rw [← er] at ho
        have HX2 := hid_ (⟨ho, hC.base⟩ : w'.ownsRow w.heap.size 24 2 γ.2.2 (((ptsOf xs).take k).length + 1) (ptCells ((ptsOf xs).take k ++ [⟨x, y⟩])) ∧ Mod Nothing w w')
        clear er
        clear ho hC hall x0 y0 v3 v4 v5 v6 hgl
        have v7 : k2 + 2 ≤ 9000000 := by omega
        go_wp2
        go_roundw
        case rel =>
          obtain ⟨h1, h2⟩ := HX2.out
          rw [HKL.out] at h1
          exact ⟨k + 1, by have := HK2.out; omega, by have := HK2.out; rw [show (k + 1) * 2 = k2 + 2 by omega]; go_num, by rw [List.take_add_one, HPT.out]; exact h1, h2⟩
        case measure => simp [intOf]; omega
    · go_wp2
      go_returns
      have e : (ptsOf xs).take k = ptsOf xs := List.take_of_length_le (by rw [ptsOf_len n xs HN.out]; have := HK2.out; omega)
      have el : (ptsOf xs).length = k := by rw [ptsOf_len n xs HN.out]; have := HK2.out; omega
      have h1 := HO.out
      rw [e] at h1
      exact ⟨_, rfl, own_base (by rw [el]; exact h1), HM.out⟩
end Go.Proofs.Ytadiajlegajclaa
