/- head: four examples. -/
import Derived.Test.YtadiajlegajclaaL2
import Derived.Test.YtadiajlegajclaaA9
import Derived.Test.YtadiajlegajclaaW3
set_option linter.unusedVariables false
set_option linter.unusedSimpArgs false
namespace Go.Proofs.Ytadiajlegajclaa
open Go.RowKit

/-- What a value is, where only new memory comes. -/
def IntsV (w : World) (v : Value) (xs : List Int) : Prop := ∃ g, v = .slice (some ⟨g, 0, none⟩) xs.length xs.length ∧ Bk w g 3 (xs.map fun x => .int .i64 x)
def PtsV (w : World) (v : Value) (l : List Pt) : Prop := ∃ A c, v = .slice A l.length c ∧ PtsAt w w.heap.size A l
def PartsV (w : World) (v : Value) (ls : List (List Pt)) : Prop := ∃ A c, v = .slice A ls.length c ∧ RdParts w A ls
theorem PtsV.slice {w : World} {v : Value} {l : List Pt} (h : PtsV w v l) : ∃ A m c, v = .slice A m c := by
  obtain ⟨A, c, e, _⟩ := h
  exact ⟨A, _, c, e⟩
theorem OwnPts.pv {w : World} {v : Value} {l : List Pt} (h : OwnPts w v l) : PtsV w v l := by
  obtain ⟨A, c, e, h, _⟩ := h.form
  exact ⟨A, c, e, h⟩
theorem PartsAt.pv {w : World} {S : Nat → Prop} {v : Value} {ls : List (List Pt)} (h : PartsAt w S v ls) : PartsV w v ls := h.rd
inductive Kd where
  | no
  | ints (xs : List Int)
  | pts (l : List Pt)
  | parts (ls : List (List Pt))
def Kd.of : Kd → Value → World → Prop
  | .no, _, _ => True
  | .ints xs, v, w => IntsV w v xs
  | .pts l, v, w => PtsV w v l
  | .parts ls, v, w => PartsV w v ls
def Kd.at (ks : List Kd) (i : Nat) (v : Value) (w : World) : Prop := (ks.getD i .no).of v w
theorem Kd.at_mod (ks : List Kd) (i : Nat) (v : Value) (w w' : World) (hm : Mod (fun _ => False) w w') (h : Kd.at ks i v w) : Kd.at ks i v w' := by
  unfold Kd.at at h ⊢
  generalize ks.getD i .no = k at h ⊢
  cases k with
  | no => trivial
  | ints xs =>
    obtain ⟨g, e, hb⟩ := h
    exact ⟨g, e, hm.bk hb id⟩
  | pts l =>
    obtain ⟨A, c, e, hp⟩ := h
    exact ⟨A, c, e, (hp.mod hm (Nat.le_refl _) (fun _ _ => id)).mono hm.size⟩
  | parts ls =>
    obtain ⟨A, c, e, hp⟩ := h
    exact ⟨A, c, e, hp.mod hm⟩
theorem parts_lit1 {w : World} {u : Value} {l : List Pt} (t : TypeId) (h : PtsV w u l) : PartsV (w.alloc (.cells #[u] t)) (.slice (some ⟨w.heap.size, 0, none⟩) 1 1) [l] := by
  obtain ⟨A, c, rfl, hp⟩ := h
  refine ⟨_, 1, rfl, fun i l' hi => ?_⟩
  have hb : Bk (w.alloc (.cells #[.slice A l.length c] t)) w.heap.size t [.slice A l.length c] := Bk.new _ _ _
  match i, hi with
  | 0, hi =>
    cases hi
    exact ⟨w.heap.size, 0, A, c, rfl, by simp, by rw [hb.cell]; rfl, (hp.keep fun k hk => Below.heap_alloc _ _ _ hk).mono (by simp)⟩
theorem parts_lit2 {w : World} {u u2 : Value} {l l2 : List Pt} (t : TypeId) (h : PtsV w u l) (h2 : PtsV w u2 l2) : PartsV (w.alloc (.cells #[u, u2] t)) (.slice (some ⟨w.heap.size, 0, none⟩) 2 2) [l, l2] := by
  obtain ⟨A, c, rfl, hp⟩ := h
  obtain ⟨A2, c2, rfl, hp2⟩ := h2
  refine ⟨_, 2, rfl, fun i l' hi => ?_⟩
  have hb : Bk (w.alloc (.cells #[.slice A l.length c, .slice A2 l2.length c2] t)) w.heap.size t [.slice A l.length c, .slice A2 l2.length c2] := Bk.new _ _ _
  match i, hi with
  | 0, hi =>
    cases hi
    exact ⟨w.heap.size, 0, A, c, rfl, by simp, by rw [hb.cell]; rfl, (hp.keep fun k hk => Below.heap_alloc _ _ _ hk).mono (by simp)⟩
  | 1, hi =>
    cases hi
    exact ⟨w.heap.size, 0, A2, c2, rfl, by simp, by rw [hb.cell]; rfl, (hp2.keep fun k hk => Below.heap_alloc _ _ _ hk).mono (by simp)⟩

theorem calls_args {P : Program} {f : Nat} {a a' : Array Value} {w : World} {Q : Ending → World → Prop} (h : a = a') (hc : Calls P f a' w Q) : Calls P f a w Q := h ▸ hc

set_option maxRecDepth 100000 in
set_option maxHeartbeats 8000000 in
theorem head_any (w : World) : Calls Try.prog 10 #[] w (BPost true w) := by
  go_enter Try.func10, Try.ntmps10
  go_wp2_with fail
  have HM := hid_ ((Mod.refl Nothing w).alloc (.cells #[.int .i64 0, .int .i64 0, .int .i64 4, .int .i64 4] 26))
  have HBX := hid_ (Bk.new w 26 [.int .i64 0, .int .i64 0, .int .i64 4, .int .i64 4])
  refine wp_region_known (Kd.at [.ints [-2, 2, 6, 2], .pts (ptsOf [-2, 2, 6, 2]), .no, .parts (lineF (ptsOf [-2, 2, 6, 2]) ⟨⟨0, 0⟩, ⟨4, 4⟩⟩), .ints [0, 2, 4, 2], .pts (ptsOf [0, 2, 4, 2]), .parts [ptsOf [0, 2, 4, 2]], .no, .no]) (fun γ => [γ 0, γ 1, bxV ⟨⟨0, 0⟩, ⟨4, 4⟩⟩, γ 3, γ 4, γ 5, γ 6, .bool true, .bool true]) (by kernel_rfl) (by kernel_rfl)
    (fun γ => by simp only [putAll, Act.put, List.setIfInBounds_toArray, List.set_cons_zero, List.set_cons_succ]; rfl) (Kd.at_mod _) ?_ ?_
  · refine ⟨?_, ?_, ?_, ?_, ?_, ?_, ?_, ?_, ?_, trivial⟩
    · intro γ w' hm hk
      refine step_yes rfl ?_
      clear hk hm
      go_simp
      exact known (.slice (some ⟨w'.heap.size, 0, none⟩) 4 4) rfl ((Mod.refl _ _).alloc _) ⟨_, rfl, Bk.new _ _ _⟩
    · intro γ w' hm hk
      refine step_yes rfl ?_
      obtain ⟨g, e, hb⟩ : IntsV w' (γ 0) [-2, 2, 6, 2] := hk ⟨0, .data⟩ (by simp) rfl
      have E := hid_ e
      have HB := hid_ hb
      clear hk hm e hb
      go_simp
      refine calls_args (by rw [E.out]) ?_
      refine (points_any w' g 4 [-2, 2, 6, 2] rfl HB.out (by decide)).mono ?_
      rintro e w3 ⟨v, rfl, ho, hm⟩
      exact known v rfl hm ho.pv
    · intro γ w' hm hk
      refine step_yes rfl ?_
      have b := hm.bk HBX.out id
      have c0 := b.cell 0
      have c1 := b.cell 1
      have c2 := b.cell 2
      have c3 := b.cell 3
      clear hk hm b
      go_simp
      exact known undef rfl (Mod.refl _ _) trivial
    · intro γ w' hm hk
      refine step_yes rfl ?_
      obtain ⟨A, c, e, hb⟩ : PtsV w' (γ 1) (ptsOf [-2, 2, 6, 2]) := hk ⟨1, .data⟩ (by simp) rfl
      have E := hid_ e
      have HB := hid_ hb
      clear hk hm e hb
      go_simp
      refine calls_args (by rw [E.out]) ?_
      refine (line_any A c 2 (ptsOf [-2, 2, 6, 2]) ⟨⟨0, 0⟩, ⟨4, 4⟩⟩ rfl HB.out (by decide) (by simp [ptsOf, PtWf]) (by simp [BxWf, PtWf])).mono ?_
      rintro e w3 ⟨v, rfl, ho, hm⟩
      exact known v rfl hm ho.pv
    · intro γ w' hm hk
      refine step_yes rfl ?_
      clear hk hm
      go_simp
      exact known (.slice (some ⟨w'.heap.size, 0, none⟩) 4 4) rfl ((Mod.refl _ _).alloc _) ⟨_, rfl, Bk.new _ _ _⟩
    · intro γ w' hm hk
      refine step_yes rfl ?_
      obtain ⟨g, e, hb⟩ : IntsV w' (γ 4) [0, 2, 4, 2] := hk ⟨4, .data⟩ (by simp) rfl
      have E := hid_ e
      have HB := hid_ hb
      clear hk hm e hb
      go_simp
      refine calls_args (by rw [E.out]) ?_
      refine (points_any w' g 4 [0, 2, 4, 2] rfl HB.out (by decide)).mono ?_
      rintro e w3 ⟨v, rfl, ho, hm⟩
      exact known v rfl hm ho.pv
    · intro γ w' hm hk
      refine step_yes rfl ?_
      have h0 : PtsV w' (γ 5) (ptsOf [0, 2, 4, 2]) := hk ⟨5, .data⟩ (by simp) rfl
      obtain ⟨A0, m0, c0, e0⟩ := h0.slice
      rw [e0] at h0
      have H0 := hid_ h0
      have E0 := hid_ e0
      clear hk hm h0 e0
      go_simp
      simp only [E0.out]
      go_simp
      refine known (.slice (some ⟨w'.heap.size, 0, none⟩) 1 1) (by rw [← E0.out]; rfl) ((Mod.refl _ _).alloc _) ?_
      exact parts_lit1 _ H0.out
    · intro γ w' hm hk
      refine step_yes rfl ?_
      obtain ⟨A, c, e, hb⟩ : PartsV w' (γ 3) (lineF (ptsOf [-2, 2, 6, 2]) ⟨⟨0, 0⟩, ⟨4, 4⟩⟩) := hk ⟨3, .data⟩ (by simp) rfl
      obtain ⟨A2, c2, e2, hb2⟩ : PartsV w' (γ 6) [ptsOf [0, 2, 4, 2]] := hk ⟨6, .data⟩ (by simp) rfl
      have E := hid_ e
      have E2 := hid_ e2
      have HB := hid_ hb
      have HB2 := hid_ hb2
      clear hk hm e hb e2 hb2
      go_simp
      refine calls_args (by rw [E.out, E2.out]) ?_
      have hd : (lineF (ptsOf [-2, 2, 6, 2]) ⟨⟨0, 0⟩, ⟨4, 4⟩⟩) = [ptsOf [0, 2, 4, 2]] := by decide
      refine (parts_any w' A A2 c c2 _ _ (lineF (ptsOf [-2, 2, 6, 2]) ⟨⟨0, 0⟩, ⟨4, 4⟩⟩) [ptsOf [0, 2, 4, 2]] rfl rfl HB.out HB2.out (by rw [hd]; decide) (by decide) (by rw [hd]; decide) (by decide)).mono ?_
      rw [decide_eq_true hd]
      rintro e w3 ⟨rfl, hm⟩
      exact known undef rfl hm trivial
    · intro γ w' hm hk
      refine step_yes rfl ?_
      clear hk hm
      go_simp
      exact known undef rfl (Mod.refl _ _) trivial
  · intro γ w' hm hall
    clear hall
    have HBX := hid_ (hm.bk HBX.out id)
    have HM := hid_ (HM.out.trans hm (fun _ _ h => h))
    clear hm
    go_wp2_with fail
    refine wp_region_known (Kd.at [.ints [1, 1, 6, 1, 6, 3, 1, 3], .pts (ptsOf [1, 1, 6, 1, 6, 3, 1, 3]), .no, .parts (lineF (ptsOf [1, 1, 6, 1, 6, 3, 1, 3]) ⟨⟨0, 0⟩, ⟨4, 4⟩⟩), .ints [1, 1, 4, 1], .pts (ptsOf [1, 1, 4, 1]), .ints [4, 3, 1, 3], .pts (ptsOf [4, 3, 1, 3]), .parts [ptsOf [1, 1, 4, 1], ptsOf [4, 3, 1, 3]], .no, .no]) (fun γ => [γ 0, γ 1, bxV ⟨⟨0, 0⟩, ⟨4, 4⟩⟩, γ 3, γ 4, γ 5, γ 6, γ 7, γ 8, .bool true, .bool true]) (by kernel_rfl) (by kernel_rfl)
      (fun γ => by simp only [putAll, Act.put, List.setIfInBounds_toArray, List.set_cons_zero, List.set_cons_succ]; rfl) (Kd.at_mod _) ?_ ?_
    · refine ⟨?_, ?_, ?_, ?_, ?_, ?_, ?_, ?_, ?_, ?_, ?_, trivial⟩
      · intro γ w' hm hk
        refine step_yes rfl ?_
        clear hk hm
        go_simp
        exact known (.slice (some ⟨w'.heap.size, 0, none⟩) 8 8) rfl ((Mod.refl _ _).alloc _) ⟨_, rfl, Bk.new _ _ _⟩
      · intro γ w' hm hk
        refine step_yes rfl ?_
        obtain ⟨g, e, hb⟩ : IntsV w' (γ 0) [1, 1, 6, 1, 6, 3, 1, 3] := hk ⟨0, .data⟩ (by simp) rfl
        have E := hid_ e
        have HB := hid_ hb
        clear hk hm e hb
        go_simp
        refine calls_args (by rw [E.out]) ?_
        refine (points_any w' g 8 [1, 1, 6, 1, 6, 3, 1, 3] rfl HB.out (by decide)).mono ?_
        rintro e w3 ⟨v, rfl, ho, hm⟩
        exact known v rfl hm ho.pv
      · intro γ w' hm hk
        refine step_yes rfl ?_
        have b := hm.bk HBX.out id
        have c0 := b.cell 0
        have c1 := b.cell 1
        have c2 := b.cell 2
        have c3 := b.cell 3
        clear hk hm b
        go_simp
        exact known undef rfl (Mod.refl _ _) trivial
      · intro γ w' hm hk
        refine step_yes rfl ?_
        obtain ⟨A, c, e, hb⟩ : PtsV w' (γ 1) (ptsOf [1, 1, 6, 1, 6, 3, 1, 3]) := hk ⟨1, .data⟩ (by simp) rfl
        have E := hid_ e
        have HB := hid_ hb
        clear hk hm e hb
        go_simp
        refine calls_args (by rw [E.out]) ?_
        refine (line_any A c 4 (ptsOf [1, 1, 6, 1, 6, 3, 1, 3]) ⟨⟨0, 0⟩, ⟨4, 4⟩⟩ rfl HB.out (by decide) (by simp [ptsOf, PtWf]) (by simp [BxWf, PtWf])).mono ?_
        rintro e w3 ⟨v, rfl, ho, hm⟩
        exact known v rfl hm ho.pv
      · intro γ w' hm hk
        refine step_yes rfl ?_
        clear hk hm
        go_simp
        exact known (.slice (some ⟨w'.heap.size, 0, none⟩) 4 4) rfl ((Mod.refl _ _).alloc _) ⟨_, rfl, Bk.new _ _ _⟩
      · intro γ w' hm hk
        refine step_yes rfl ?_
        obtain ⟨g, e, hb⟩ : IntsV w' (γ 4) [1, 1, 4, 1] := hk ⟨4, .data⟩ (by simp) rfl
        have E := hid_ e
        have HB := hid_ hb
        clear hk hm e hb
        go_simp
        refine calls_args (by rw [E.out]) ?_
        refine (points_any w' g 4 [1, 1, 4, 1] rfl HB.out (by decide)).mono ?_
        rintro e w3 ⟨v, rfl, ho, hm⟩
        exact known v rfl hm ho.pv
      · intro γ w' hm hk
        refine step_yes rfl ?_
        clear hk hm
        go_simp
        exact known (.slice (some ⟨w'.heap.size, 0, none⟩) 4 4) rfl ((Mod.refl _ _).alloc _) ⟨_, rfl, Bk.new _ _ _⟩
      · intro γ w' hm hk
        refine step_yes rfl ?_
        obtain ⟨g, e, hb⟩ : IntsV w' (γ 6) [4, 3, 1, 3] := hk ⟨6, .data⟩ (by simp) rfl
        have E := hid_ e
        have HB := hid_ hb
        clear hk hm e hb
        go_simp
        refine calls_args (by rw [E.out]) ?_
        refine (points_any w' g 4 [4, 3, 1, 3] rfl HB.out (by decide)).mono ?_
        rintro e w3 ⟨v, rfl, ho, hm⟩
        exact known v rfl hm ho.pv
      · intro γ w' hm hk
        refine step_yes rfl ?_
        have h0 : PtsV w' (γ 5) (ptsOf [1, 1, 4, 1]) := hk ⟨5, .data⟩ (by simp) rfl
        obtain ⟨A0, m0, c0, e0⟩ := h0.slice
        rw [e0] at h0
        have H0 := hid_ h0
        have E0 := hid_ e0
        have h1 : PtsV w' (γ 7) (ptsOf [4, 3, 1, 3]) := hk ⟨7, .data⟩ (by simp) rfl
        obtain ⟨A1, m1, c1, e1⟩ := h1.slice
        rw [e1] at h1
        have H1 := hid_ h1
        have E1 := hid_ e1
        clear hk hm h0 e0 h1 e1
        go_simp
        simp only [E0.out, E1.out]
        go_simp
        refine known (.slice (some ⟨w'.heap.size, 0, none⟩) 2 2) (by rw [← E0.out, ← E1.out]; rfl) ((Mod.refl _ _).alloc _) ?_
        exact parts_lit2 _ H0.out H1.out
      · intro γ w' hm hk
        refine step_yes rfl ?_
        obtain ⟨A, c, e, hb⟩ : PartsV w' (γ 3) (lineF (ptsOf [1, 1, 6, 1, 6, 3, 1, 3]) ⟨⟨0, 0⟩, ⟨4, 4⟩⟩) := hk ⟨3, .data⟩ (by simp) rfl
        obtain ⟨A2, c2, e2, hb2⟩ : PartsV w' (γ 8) [ptsOf [1, 1, 4, 1], ptsOf [4, 3, 1, 3]] := hk ⟨8, .data⟩ (by simp) rfl
        have E := hid_ e
        have E2 := hid_ e2
        have HB := hid_ hb
        have HB2 := hid_ hb2
        clear hk hm e hb e2 hb2
        go_simp
        refine calls_args (by rw [E.out, E2.out]) ?_
        have hd : (lineF (ptsOf [1, 1, 6, 1, 6, 3, 1, 3]) ⟨⟨0, 0⟩, ⟨4, 4⟩⟩) = [ptsOf [1, 1, 4, 1], ptsOf [4, 3, 1, 3]] := by decide
        refine (parts_any w' A A2 c c2 _ _ (lineF (ptsOf [1, 1, 6, 1, 6, 3, 1, 3]) ⟨⟨0, 0⟩, ⟨4, 4⟩⟩) [ptsOf [1, 1, 4, 1], ptsOf [4, 3, 1, 3]] rfl rfl HB.out HB2.out (by rw [hd]; decide) (by decide) (by rw [hd]; decide) (by decide)).mono ?_
        rw [decide_eq_true hd]
        rintro e w3 ⟨rfl, hm⟩
        exact known undef rfl hm trivial
      · intro γ w' hm hk
        refine step_yes rfl ?_
        clear hk hm
        go_simp
        exact known undef rfl (Mod.refl _ _) trivial
    · intro γ w' hm hall
      clear hall
      have HBX := hid_ (hm.bk HBX.out id)
      have HM := hid_ (HM.out.trans hm (fun _ _ h => h))
      clear hm
      go_wp2_with fail
      refine wp_region_known (Kd.at [.ints [-1, 0, 2, 1], .pts (ptsOf [-1, 0, 2, 1]), .no, .parts (lineF (ptsOf [-1, 0, 2, 1]) ⟨⟨0, 0⟩, ⟨4, 4⟩⟩), .ints [0, 0, 2, 1], .pts (ptsOf [0, 0, 2, 1]), .parts [ptsOf [0, 0, 2, 1]], .no, .no]) (fun γ => [γ 0, γ 1, bxV ⟨⟨0, 0⟩, ⟨4, 4⟩⟩, γ 3, γ 4, γ 5, γ 6, .bool true, .bool true]) (by kernel_rfl) (by kernel_rfl)
        (fun γ => by simp only [putAll, Act.put, List.setIfInBounds_toArray, List.set_cons_zero, List.set_cons_succ]; rfl) (Kd.at_mod _) ?_ ?_
      · refine ⟨?_, ?_, ?_, ?_, ?_, ?_, ?_, ?_, ?_, trivial⟩
        · intro γ w' hm hk
          refine step_yes rfl ?_
          clear hk hm
          go_simp
          exact known (.slice (some ⟨w'.heap.size, 0, none⟩) 4 4) rfl ((Mod.refl _ _).alloc _) ⟨_, rfl, Bk.new _ _ _⟩
        · intro γ w' hm hk
          refine step_yes rfl ?_
          obtain ⟨g, e, hb⟩ : IntsV w' (γ 0) [-1, 0, 2, 1] := hk ⟨0, .data⟩ (by simp) rfl
          have E := hid_ e
          have HB := hid_ hb
          clear hk hm e hb
          go_simp
          refine calls_args (by rw [E.out]) ?_
          refine (points_any w' g 4 [-1, 0, 2, 1] rfl HB.out (by decide)).mono ?_
          rintro e w3 ⟨v, rfl, ho, hm⟩
          exact known v rfl hm ho.pv
        · intro γ w' hm hk
          refine step_yes rfl ?_
          have b := hm.bk HBX.out id
          have c0 := b.cell 0
          have c1 := b.cell 1
          have c2 := b.cell 2
          have c3 := b.cell 3
          clear hk hm b
          go_simp
          exact known undef rfl (Mod.refl _ _) trivial
        · intro γ w' hm hk
          refine step_yes rfl ?_
          obtain ⟨A, c, e, hb⟩ : PtsV w' (γ 1) (ptsOf [-1, 0, 2, 1]) := hk ⟨1, .data⟩ (by simp) rfl
          have E := hid_ e
          have HB := hid_ hb
          clear hk hm e hb
          go_simp
          refine calls_args (by rw [E.out]) ?_
          refine (line_any A c 2 (ptsOf [-1, 0, 2, 1]) ⟨⟨0, 0⟩, ⟨4, 4⟩⟩ rfl HB.out (by decide) (by simp [ptsOf, PtWf]) (by simp [BxWf, PtWf])).mono ?_
          rintro e w3 ⟨v, rfl, ho, hm⟩
          exact known v rfl hm ho.pv
        · intro γ w' hm hk
          refine step_yes rfl ?_
          clear hk hm
          go_simp
          exact known (.slice (some ⟨w'.heap.size, 0, none⟩) 4 4) rfl ((Mod.refl _ _).alloc _) ⟨_, rfl, Bk.new _ _ _⟩
        · intro γ w' hm hk
          refine step_yes rfl ?_
          obtain ⟨g, e, hb⟩ : IntsV w' (γ 4) [0, 0, 2, 1] := hk ⟨4, .data⟩ (by simp) rfl
          have E := hid_ e
          have HB := hid_ hb
          clear hk hm e hb
          go_simp
          refine calls_args (by rw [E.out]) ?_
          refine (points_any w' g 4 [0, 0, 2, 1] rfl HB.out (by decide)).mono ?_
          rintro e w3 ⟨v, rfl, ho, hm⟩
          exact known v rfl hm ho.pv
        · intro γ w' hm hk
          refine step_yes rfl ?_
          have h0 : PtsV w' (γ 5) (ptsOf [0, 0, 2, 1]) := hk ⟨5, .data⟩ (by simp) rfl
          obtain ⟨A0, m0, c0, e0⟩ := h0.slice
          rw [e0] at h0
          have H0 := hid_ h0
          have E0 := hid_ e0
          clear hk hm h0 e0
          go_simp
          simp only [E0.out]
          go_simp
          refine known (.slice (some ⟨w'.heap.size, 0, none⟩) 1 1) (by rw [← E0.out]; rfl) ((Mod.refl _ _).alloc _) ?_
          exact parts_lit1 _ H0.out
        · intro γ w' hm hk
          refine step_yes rfl ?_
          obtain ⟨A, c, e, hb⟩ : PartsV w' (γ 3) (lineF (ptsOf [-1, 0, 2, 1]) ⟨⟨0, 0⟩, ⟨4, 4⟩⟩) := hk ⟨3, .data⟩ (by simp) rfl
          obtain ⟨A2, c2, e2, hb2⟩ : PartsV w' (γ 6) [ptsOf [0, 0, 2, 1]] := hk ⟨6, .data⟩ (by simp) rfl
          have E := hid_ e
          have E2 := hid_ e2
          have HB := hid_ hb
          have HB2 := hid_ hb2
          clear hk hm e hb e2 hb2
          go_simp
          refine calls_args (by rw [E.out, E2.out]) ?_
          have hd : (lineF (ptsOf [-1, 0, 2, 1]) ⟨⟨0, 0⟩, ⟨4, 4⟩⟩) = [ptsOf [0, 0, 2, 1]] := by decide
          refine (parts_any w' A A2 c c2 _ _ (lineF (ptsOf [-1, 0, 2, 1]) ⟨⟨0, 0⟩, ⟨4, 4⟩⟩) [ptsOf [0, 0, 2, 1]] rfl rfl HB.out HB2.out (by rw [hd]; decide) (by decide) (by rw [hd]; decide) (by decide)).mono ?_
          rw [decide_eq_true hd]
          rintro e w3 ⟨rfl, hm⟩
          exact known undef rfl hm trivial
        · intro γ w' hm hk
          refine step_yes rfl ?_
          clear hk hm
          go_simp
          exact known undef rfl (Mod.refl _ _) trivial
      · intro γ w' hm hall
        clear hall
        have HBX := hid_ (hm.bk HBX.out id)
        have HM := hid_ (HM.out.trans hm (fun _ _ h => h))
        clear hm
        go_wp2_with fail
        refine wp_region_known (Kd.at [.no, .no, .no, .no, .no, .no, .no, .no, .ints [-2, -2, 2, -2, 2, 2, -2, 2], .pts (ptsOf [-2, -2, 2, -2, 2, 2, -2, 2]), .no, .pts (ringF (ptsOf [-2, -2, 2, -2, 2, 2, -2, 2]) ⟨⟨0, 0⟩, ⟨4, 4⟩⟩), .ints [0, 0, 2, 0, 2, 2, 0, 2], .pts (ptsOf [0, 0, 2, 0, 2, 2, 0, 2]), .no, .no, .no]) (fun γ => [.bool true, .bool true, .bool true, .bool true, .bool true, .bool true, .bool true, .bool true, γ 8, γ 9, bxV ⟨⟨0, 0⟩, ⟨4, 4⟩⟩, γ 11, γ 12, γ 13, .bool true, .bool true, .bool true]) (by kernel_rfl) (by kernel_rfl)
          (fun γ => by simp only [putAll, Act.put, List.setIfInBounds_toArray, List.set_cons_zero, List.set_cons_succ]; rfl) (Kd.at_mod _) ?_ ?_
        · refine ⟨?_, ?_, ?_, ?_, ?_, ?_, ?_, ?_, ?_, ?_, ?_, ?_, ?_, ?_, ?_, ?_, ?_, trivial⟩
          · intro γ w' hm hk
            refine step_yes rfl ?_
            clear hk hm
            go_simp
            exact known undef rfl (Mod.refl _ _) trivial
          · intro γ w' hm hk
            refine step_yes rfl ?_
            clear hk hm
            go_simp
            exact known undef rfl (Mod.refl _ _) trivial
          · intro γ w' hm hk
            refine step_yes rfl ?_
            clear hk hm
            go_simp
            exact known undef rfl (Mod.refl _ _) trivial
          · intro γ w' hm hk
            refine step_yes rfl ?_
            clear hk hm
            go_simp
            exact known undef rfl (Mod.refl _ _) trivial
          · intro γ w' hm hk
            refine step_yes rfl ?_
            clear hk hm
            go_simp
            exact known undef rfl (Mod.refl _ _) trivial
          · intro γ w' hm hk
            refine step_yes rfl ?_
            clear hk hm
            go_simp
            exact known undef rfl (Mod.refl _ _) trivial
          · intro γ w' hm hk
            refine step_yes rfl ?_
            clear hk hm
            go_simp
            exact known undef rfl (Mod.refl _ _) trivial
          · intro γ w' hm hk
            refine step_yes rfl ?_
            clear hk hm
            go_simp
            exact known undef rfl (Mod.refl _ _) trivial
          · intro γ w' hm hk
            refine step_yes rfl ?_
            clear hk hm
            go_simp
            exact known (.slice (some ⟨w'.heap.size, 0, none⟩) 8 8) rfl ((Mod.refl _ _).alloc _) ⟨_, rfl, Bk.new _ _ _⟩
          · intro γ w' hm hk
            refine step_yes rfl ?_
            obtain ⟨g, e, hb⟩ : IntsV w' (γ 8) [-2, -2, 2, -2, 2, 2, -2, 2] := hk ⟨8, .data⟩ (by simp) rfl
            have E := hid_ e
            have HB := hid_ hb
            clear hk hm e hb
            go_simp
            refine calls_args (by rw [E.out]) ?_
            refine (points_any w' g 8 [-2, -2, 2, -2, 2, 2, -2, 2] rfl HB.out (by decide)).mono ?_
            rintro e w3 ⟨v, rfl, ho, hm⟩
            exact known v rfl hm ho.pv
          · intro γ w' hm hk
            refine step_yes rfl ?_
            have b := hm.bk HBX.out id
            have c0 := b.cell 0
            have c1 := b.cell 1
            have c2 := b.cell 2
            have c3 := b.cell 3
            clear hk hm b
            go_simp
            exact known undef rfl (Mod.refl _ _) trivial
          · intro γ w' hm hk
            refine step_yes rfl ?_
            obtain ⟨A, c, e, hb⟩ : PtsV w' (γ 9) (ptsOf [-2, -2, 2, -2, 2, 2, -2, 2]) := hk ⟨9, .data⟩ (by simp) rfl
            have E := hid_ e
            have HB := hid_ hb
            clear hk hm e hb
            go_simp
            refine calls_args (by rw [E.out]) ?_
            refine (ring_any A c 4 (ptsOf [-2, -2, 2, -2, 2, 2, -2, 2]) ⟨⟨0, 0⟩, ⟨4, 4⟩⟩ rfl HB.out (by decide) (by simp [ptsOf, PtWf]) (by simp [BxWf, PtWf])).mono ?_
            rintro e w3 ⟨v, rfl, ho, _, hm⟩
            exact known v rfl hm ho.pv
          · intro γ w' hm hk
            refine step_yes rfl ?_
            clear hk hm
            go_simp
            exact known (.slice (some ⟨w'.heap.size, 0, none⟩) 8 8) rfl ((Mod.refl _ _).alloc _) ⟨_, rfl, Bk.new _ _ _⟩
          · intro γ w' hm hk
            refine step_yes rfl ?_
            obtain ⟨g, e, hb⟩ : IntsV w' (γ 12) [0, 0, 2, 0, 2, 2, 0, 2] := hk ⟨12, .data⟩ (by simp) rfl
            have E := hid_ e
            have HB := hid_ hb
            clear hk hm e hb
            go_simp
            refine calls_args (by rw [E.out]) ?_
            refine (points_any w' g 8 [0, 0, 2, 0, 2, 2, 0, 2] rfl HB.out (by decide)).mono ?_
            rintro e w3 ⟨v, rfl, ho, hm⟩
            exact known v rfl hm ho.pv
          · intro γ w' hm hk
            refine step_yes rfl ?_
            obtain ⟨A, c, e, hb⟩ : PtsV w' (γ 11) (ringF (ptsOf [-2, -2, 2, -2, 2, 2, -2, 2]) ⟨⟨0, 0⟩, ⟨4, 4⟩⟩) := hk ⟨11, .data⟩ (by simp) rfl
            obtain ⟨A2, c2, e2, hb2⟩ : PtsV w' (γ 13) (ptsOf [0, 0, 2, 0, 2, 2, 0, 2]) := hk ⟨13, .data⟩ (by simp) rfl
            have E := hid_ e
            have E2 := hid_ e2
            have HB := hid_ hb
            have HB2 := hid_ hb2
            clear hk hm e hb e2 hb2
            go_simp
            refine calls_args (by rw [E.out, E2.out]) ?_
            have hd : (ringF (ptsOf [-2, -2, 2, -2, 2, 2, -2, 2]) ⟨⟨0, 0⟩, ⟨4, 4⟩⟩) = (ptsOf [0, 0, 2, 0, 2, 2, 0, 2]) := by decide
            refine (same_any w' A A2 c c2 _ _ (ringF (ptsOf [-2, -2, 2, -2, 2, 2, -2, 2]) ⟨⟨0, 0⟩, ⟨4, 4⟩⟩) (ptsOf [0, 0, 2, 0, 2, 2, 0, 2]) rfl rfl HB.out HB2.out (by rw [hd]; decide) (by decide)).mono ?_
            rw [decide_eq_true hd]
            rintro e w3 ⟨rfl, hm⟩
            exact known undef rfl hm trivial
          · intro γ w' hm hk
            refine step_yes rfl ?_
            clear hk hm
            go_simp
            exact known undef rfl (Mod.refl _ _) trivial
          · intro γ w' hm hk
            refine step_yes rfl ?_
            clear hk hm
            go_simp
            exact known undef rfl (Mod.refl _ _) trivial
        · intro γ w' hm hall
          clear hall
          have HM := hid_ (HM.out.trans hm (fun _ _ h => h))
          clear hm
          go_wp2
          go_returns
          exact ⟨rfl, HM.out⟩
end Go.Proofs.Ytadiajlegajclaa
