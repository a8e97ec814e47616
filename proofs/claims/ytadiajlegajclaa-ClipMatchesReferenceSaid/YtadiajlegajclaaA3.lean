/- piece's closure 'bound'. -/
import Derived.Test.YtadiajlegajclaaA2
set_option linter.unusedVariables false
set_option linter.unusedSimpArgs false
namespace Go.Proofs.Ytadiajlegajclaa
open Go.RowKit

/-- The three captured variables: ok, low, high. -/
structure Cap (w : World) (gk gl gh : Nat) (s : Ra × Ra × Bool) : Prop where
  ok : Bk w gk 4 [.bool s.2.2]
  low : Bk w gl 60 [.int .i64 s.1.1, .int .i64 s.1.2]
  high : Bk w gh 60 [.int .i64 s.2.1.1, .int .i64 s.2.1.2]
  ne : gl ≠ gh
theorem Cap.mod {w w' : World} {gk gl gh : Nat} {s : Ra × Ra × Bool} {S : Nat → Prop} (h : Cap w gk gl gh s) (hm : Mod S w w') (h1 : ¬ S gk) (h2 : ¬ S gl) (h3 : ¬ S gh) : Cap w' gk gl gh s :=
  ⟨hm.bk h.ok h1, hm.bk h.low h2, hm.bk h.high h3, h.ne⟩
abbrev In3 (a b c : Nat) : Nat → Prop := fun k => k = a ∨ k = b ∨ k = c
def CapPost (gk gl gh : Nat) (s : Ra × Ra × Bool) (w : World) (e : Ending) (w' : World) : Prop := e = .returned (.tuple #[]) ∧ Cap w' gk gl gh s ∧ Mod (In3 gk gl gh) w w'
abbrev gptr (g : Nat) : Value := .pointer (some ⟨g, 0, none⟩)

theorem bnd_zero {w : World} {gk gl gh : Nat} {s : Ra × Ra × Bool} (h : Cap w gk gl gh s) (f l m : Int) :
    Calls Try.prog 47 #[.int .i64 f, .int .i64 0, .int .i64 l, .int .i64 m, gptr gk, gptr gl, gptr gh] w (CapPost gk gl gh (bndF s f 0 l m) w) := by
  have c0 := h.ok.cell 0
  have f0 := h.ok.frozen 0
  have hlt := h.ok.lt
  have H := hid_ h
  have e : bndF s f 0 l m = (s.1, s.2.1, s.2.2 && decide (l ≤ f) && decide (f ≤ m)) := by rw [bndF, if_pos rfl]
  have HE := hid_ e
  have fin : ∀ (b : Bool), b = (s.2.2 && decide (l ≤ f) && decide (f ≤ m)) → CapPost gk gl gh (bndF s f 0 l m) w (.returned (.tuple #[])) (w.setCell ⟨gk, 0, none⟩ (.bool b)) := by
    intro b hb
    rw [e, ← hb]
    exact ⟨rfl, ⟨h.ok.set 0 _, h.low.far (h.low.ne h.ok (by decide)) _, h.high.far (h.high.ne h.ok (by decide)) _, h.ne⟩, (Mod.refl _ _).setCell (fun _ => .inl rfl) _⟩
  have HF := hid_ fin
  clear h e fin
  simp only [List.getElem?_cons_zero] at c0
  go_enter Try.func47, Try.ntmps47
  obtain ⟨ok, hok⟩ : ∃ ok, ok = s.2.2 := ⟨_, rfl⟩
  rw [← hok] at c0
  have HO := hid_ hok
  clear hok
  cases ok with
  | false =>
    go_wp2
    go_end0
    exact HF.out _ (by rw [← HO.out]; rfl)
  | true =>
    go_wp2
    all_goals
      go_end0
      refine HF.out _ ?_
      rw [← HO.out]
      first
        | (rw [decide_eq_true (show l ≤ f by omega)]; simp; done)
        | (rw [decide_eq_false (show ¬ l ≤ f by omega)]; simp; done)

set_option maxHeartbeats 4000000 in
theorem bnd_some {w : World} {gk gl gh : Nat} {s : Ra × Ra × Bool} (h : Cap w gk gl gh s) (f d l m : Int) (hd0 : d ≠ 0) (h1 : RaOk s.1) (h2 : RaOk s.2.1) (hf : -2097152 ≤ f ∧ f ≤ 2097152) (hd : -4194304 ≤ d ∧ d ≤ 4194304) (hl : -2097152 ≤ l ∧ l ≤ 2097152) (hm : -2097152 ≤ m ∧ m ≤ 2097152) :
    Calls Try.prog 47 #[.int .i64 f, .int .i64 d, .int .i64 l, .int .i64 m, gptr gk, gptr gl, gptr gh] w (CapPost gk gl gh (bndF s f d l m) w) := by
  obtain ⟨hf1, hf2⟩ := hf
  obtain ⟨hd1, hd2⟩ := hd
  obtain ⟨hl1, hl2⟩ := hl
  obtain ⟨hm1, hm2⟩ := hm
  have ou := raOf_ok (a := l - f) hd0 (by omega) (by omega) hd1 hd2
  have ov := raOf_ok (a := m - f) hd0 (by omega) (by omega) hd1 hd2
  obtain ⟨⟨low, high, okv⟩, hs⟩ : ∃ t, t = s := ⟨_, rfl⟩
  subst hs
  simp only at h1 h2
  obtain ⟨l1, l2, fl1, fl2, hltl⟩ := h.low.two
  obtain ⟨h1', h2', fh1, fh2, hlth⟩ := h.high.two
  simp only at l1 l2 h1' h2'
  have hne := h.ne
  have H := hid_ h
  have e : bndF (low, high, okv) f d l m = (if Ra.less low (if (raOf (m - f) d).less (raOf (l - f) d) then raOf (m - f) d else raOf (l - f) d) then (if (raOf (m - f) d).less (raOf (l - f) d) then raOf (m - f) d else raOf (l - f) d) else low,
      if Ra.less (if (raOf (m - f) d).less (raOf (l - f) d) then raOf (l - f) d else raOf (m - f) d) high then (if (raOf (m - f) d).less (raOf (l - f) d) then raOf (l - f) d else raOf (m - f) d) else high, okv) := by
    rw [bndF, if_neg hd0]
  rw [e]
  clear e
  have cu := fun w => of_any (l - f) d w (by omega) (by omega) (by omega) (by omega)
  have cv := fun w => of_any (m - f) d w (by omega) (by omega) (by omega) (by omega)
  obtain ⟨u, hu⟩ : ∃ u, u = raOf (l - f) d := ⟨_, rfl⟩
  obtain ⟨v, hv⟩ : ∃ v, v = raOf (m - f) d := ⟨_, rfl⟩
  rw [← hu] at ou cu
  rw [← hv] at ov cv
  rw [← hu, ← hv]
  obtain ⟨R, hR⟩ : ∃ R, R = (if Ra.less low (if v.less u then v else u) then (if v.less u then v else u) else low, if Ra.less (if v.less u then u else v) high then (if v.less u then u else v) else high, okv) := ⟨_, rfl⟩
  rw [← hR]
  have HR := hid_ hR
  have CU := hid_ cu
  have CV := hid_ cv
  have hdz : (d == 0) = false := beq_eq_false_iff_ne.2 hd0
  have HNE := hid_ hne
  have clv := hid_ (fun w => less_any v u w ov ou)
  have OU := hid_ ou
  have OV := hid_ ov
  have OL := hid_ h1
  have OH := hid_ h2
  clear h cu cv hu hv hd0 hne hR ou ov h1 h2
  go_enter Try.func47, Try.ntmps47
  go_wp2_with fail
  refine (CU.out _).mono ?_
  rintro e w1 ⟨rfl, hm1⟩
  have HM1 := hid_ hm1
  clear hm1
  go_wp2_with fail
  refine (CV.out _).mono ?_
  rintro e w2 ⟨rfl, hm2⟩
  have HM2 := hid_ (HM1.out.trans hm2 (fun _ _ h => h))
  clear hm2
  have H2 := hid_ (H.out.mod HM2.out id id id)
  clear l1 l2 fl1 fl2 hltl h1' h2' fh1 fh2 hlth
  go_wp2_with fail
  refine (clv.out _).mono ?_
  rintro e w3 ⟨rfl, hm3⟩
  have hbu : Bk w3 w2.heap.size 60 [.int .i64 u.1, .int .i64 u.2] := hm3.bk ((Bk.new w2 60 [.int .i64 u.1, .int .i64 u.2]).alloc _) id
  have hbv : Bk w3 (w2.heap.size + 1) 60 [.int .i64 v.1, .int .i64 v.2] := hm3.bk (by have h := Bk.new (w2.alloc (.cells #[.int .i64 u.1, .int .i64 u.2] 60)) 60 [.int .i64 v.1, .int .i64 v.2]; simpa using h) id
  have HM3 := hid_ (((HM2.out.alloc _).alloc _).trans hm3 (fun _ _ h => h))
  have HX3 := hid_ ((((Mod.refl Nothing w2).alloc _).alloc _).trans hm3 (fun _ _ h => h))
  have H3 := hid_ (H2.out.mod HX3.out id id id)
  have hlg := H2.out.low.lt
  have hhg := H2.out.high.lt
  have hkg := H2.out.ok.lt
  obtain ⟨g, hg⟩ : ∃ g, g = w2.heap.size := ⟨_, rfl⟩
  rw [← hg] at hbu hbv hlg hhg hkg
  have HBU := hid_ hbu
  have HBV := hid_ hbv
  obtain ⟨u0, u1, fu0, fu1, hul⟩ := hbu.two
  obtain ⟨v0, v1, fv0, fv1, hvl⟩ := hbv.two
  clear hm3 hbu hbv
  cases hb1 : v.less u
  · obtain ⟨l0, l1, fl0, fl1, hll⟩ := H3.out.low.two
    simp only at l0 l1
    simp only [← hg]
    have HG := hid_ hg
    clear hg
    have HBU4 := hid_ HBU.out
    have HBV4 := hid_ HBV.out
    have H4 := hid_ H3.out
    have HM4 := hid_ HM3.out
    go_wp2_with fail
    refine (less_any low u _ OL.out OU.out).mono ?_
    rintro e w5 ⟨rfl, hm5⟩
    have HBU5 := hid_ (hm5.bk HBU4.out id)
    have HBV5 := hid_ (hm5.bk HBV4.out id)
    have H5 := hid_ (H4.out.mod hm5 id id id)
    have HM5 := hid_ (((HM4.out.trans hm5 (fun _ _ => False.elim)) : Mod Nothing w w5).mono (S' := In3 gk gl gh) (fun _ _ => False.elim))
    clear hm5 u0 u1 fu0 fu1 hul l0 l1 fl0 fl1 hll
    cases hb2 : Ra.less low u
    · obtain ⟨v0, v1, fv0, fv1, hvl⟩ := HBV5.out.two
      obtain ⟨h0, h1, fh0, fh1, hhl⟩ := H5.out.high.two
      simp only at h0 h1
      go_wp2_with fail
      refine (less_any v high _ OV.out OH.out).mono ?_
      rintro e w7 ⟨rfl, hm7⟩
      have HBV7 := hid_ (hm7.bk HBV5.out id)
      have H7 := hid_ (H5.out.mod hm7 id id id)
      have HM7 := hid_ (HM5.out.trans hm7 (fun _ _ => False.elim))
      clear hm7 v0 v1 fv0 fv1 hvl h0 h1 fh0 fh1 hhl
      obtain ⟨v0, v1, fv0, fv1, hvl⟩ := HBV7.out.two
      obtain ⟨h0, h1, fh0, fh1, hhl⟩ := H7.out.high.two
      simp only at h0 h1
      cases hb3 : Ra.less v high
      · go_wp2
        go_end0
        rw [show R = (low, high, okv) by rw [HR.out]; simp [hb1, hb2, hb3]]
        exact ⟨rfl, H7.out, HM7.out⟩
      · go_wp2
        go_end0
        rw [show R = (low, v, okv) by rw [HR.out]; simp [hb1, hb2, hb3]]
        exact ⟨rfl, ⟨(H7.out.ok.far (H7.out.ok.ne H7.out.high (by decide)) _).far (H7.out.ok.ne H7.out.high (by decide)) _, (H7.out.low.far H7.out.ne _).far H7.out.ne _, (H7.out.high.set 0 _).set 1 _, H7.out.ne⟩, (HM7.out.setCell (p := ⟨gh, 0, none⟩) (fun _ => .inr (.inr rfl)) _).setCell (p := ⟨gh, 1, none⟩) (fun _ => .inr (.inr rfl)) _⟩
    · obtain ⟨u0, u1, fu0, fu1, hul⟩ := HBU5.out.two
      obtain ⟨l0, l1, fl0, fl1, hll⟩ := H5.out.low.two
      obtain ⟨v0, v1, fv0, fv1, hvl⟩ := HBV5.out.two
      obtain ⟨h0, h1, fh0, fh1, hhl⟩ := H5.out.high.two
      simp only at l0 l1 h0 h1
      have hne := HNE.out
      have h6 : Cap ((w5.setCell ⟨gl, 0, none⟩ (.int .i64 u.1)).setCell ⟨gl, 1, none⟩ (.int .i64 u.2)) gk gl gh (u, high, okv) := ⟨(H5.out.ok.far (H5.out.ok.ne H5.out.low (by decide)) _).far (H5.out.ok.ne H5.out.low (by decide)) _, (H5.out.low.set 0 _).set 1 _, (H5.out.high.far (Ne.symm hne) _).far (Ne.symm hne) _, hne⟩
      have hbv6 : Bk ((w5.setCell ⟨gl, 0, none⟩ (.int .i64 u.1)).setCell ⟨gl, 1, none⟩ (.int .i64 u.2)) (g + 1) 60 [.int .i64 v.1, .int .i64 v.2] := (HBV5.out.far (by show g + 1 ≠ gl; omega) _).far (by show g + 1 ≠ gl; omega) _
      have hm6 : Mod (In3 gk gl gh) w ((w5.setCell ⟨gl, 0, none⟩ (.int .i64 u.1)).setCell ⟨gl, 1, none⟩ (.int .i64 u.2)) := (HM5.out.setCell (p := ⟨gl, 0, none⟩) (fun _ => .inr (.inl rfl)) _).setCell (p := ⟨gl, 1, none⟩) (fun _ => .inr (.inl rfl)) _
      have H6 := hid_ h6
      have HBV6 := hid_ hbv6
      have HM6 := hid_ hm6
      clear h6 hbv6 hm6 hne
      obtain ⟨v0, v1, fv0, fv1, hvl⟩ := HBV6.out.two
      obtain ⟨h0, h1, fh0, fh1, hhl⟩ := H6.out.high.two
      simp only at h0 h1
      obtain ⟨v0, v1, fv0, fv1, hvl⟩ := HBV6.out.two
      obtain ⟨h0, h1, fh0, fh1, hhl⟩ := H6.out.high.two
      simp only at h0 h1
      go_wp2_with fail
      refine (less_any v high _ OV.out OH.out).mono ?_
      rintro e w7 ⟨rfl, hm7⟩
      have HBV7 := hid_ (hm7.bk HBV6.out id)
      have H7 := hid_ (H6.out.mod hm7 id id id)
      have HM7 := hid_ (HM6.out.trans hm7 (fun _ _ => False.elim))
      clear hm7 v0 v1 fv0 fv1 hvl h0 h1 fh0 fh1 hhl
      obtain ⟨v0, v1, fv0, fv1, hvl⟩ := HBV7.out.two
      obtain ⟨h0, h1, fh0, fh1, hhl⟩ := H7.out.high.two
      simp only at h0 h1
      cases hb3 : Ra.less v high
      · go_wp2
        go_end0
        rw [show R = (u, high, okv) by rw [HR.out]; simp [hb1, hb2, hb3]]
        exact ⟨rfl, H7.out, HM7.out⟩
      · go_wp2
        go_end0
        rw [show R = (u, v, okv) by rw [HR.out]; simp [hb1, hb2, hb3]]
        exact ⟨rfl, ⟨(H7.out.ok.far (H7.out.ok.ne H7.out.high (by decide)) _).far (H7.out.ok.ne H7.out.high (by decide)) _, (H7.out.low.far H7.out.ne _).far H7.out.ne _, (H7.out.high.set 0 _).set 1 _, H7.out.ne⟩, (HM7.out.setCell (p := ⟨gh, 0, none⟩) (fun _ => .inr (.inr rfl)) _).setCell (p := ⟨gh, 1, none⟩) (fun _ => .inr (.inr rfl)) _⟩
  · obtain ⟨l0, l1, fl0, fl1, hll⟩ := H3.out.low.two
    simp only at l0 l1
    simp only [← hg]
    have HG := hid_ hg
    clear hg
    have HBU4 := hid_ (show Bk ((((w3.setCell ⟨g, 0, none⟩ (.int .i64 v.1)).setCell ⟨g, 1, none⟩ (.int .i64 v.2)).setCell ⟨g + 1, 0, none⟩ (.int .i64 u.1)).setCell ⟨g + 1, 1, none⟩ (.int .i64 u.2)) g 60 [.int .i64 v.1, .int .i64 v.2] from (((HBU.out.set 0 _).set 1 _).far (by show g ≠ g + 1; omega) _).far (by show g ≠ g + 1; omega) _)
    have HBV4 := hid_ (show Bk ((((w3.setCell ⟨g, 0, none⟩ (.int .i64 v.1)).setCell ⟨g, 1, none⟩ (.int .i64 v.2)).setCell ⟨g + 1, 0, none⟩ (.int .i64 u.1)).setCell ⟨g + 1, 1, none⟩ (.int .i64 u.2)) (g + 1) 60 [.int .i64 u.1, .int .i64 u.2] from ((((HBV.out.far (by show g + 1 ≠ g; omega) _).far (by show g + 1 ≠ g; omega) _)).set 0 _).set 1 _)
    have HMX4 := hid_ (show Mod (fun k => g ≤ k) w3 ((((w3.setCell ⟨g, 0, none⟩ (.int .i64 v.1)).setCell ⟨g, 1, none⟩ (.int .i64 v.2)).setCell ⟨g + 1, 0, none⟩ (.int .i64 u.1)).setCell ⟨g + 1, 1, none⟩ (.int .i64 u.2)) from ((((Mod.refl _ _).setCell (p := ⟨g, 0, none⟩) (fun _ => Nat.le_refl g) _).setCell (p := ⟨g, 1, none⟩) (fun _ => Nat.le_refl g) _).setCell (p := ⟨g + 1, 0, none⟩) (fun _ => Nat.le_succ g) _).setCell (p := ⟨g + 1, 1, none⟩) (fun _ => Nat.le_succ g) _)
    have H4 := hid_ (H3.out.mod HMX4.out (by omega) (by omega) (by omega))
    have HM4 := hid_ (show Mod Nothing w ((((w3.setCell ⟨g, 0, none⟩ (.int .i64 v.1)).setCell ⟨g, 1, none⟩ (.int .i64 v.2)).setCell ⟨g + 1, 0, none⟩ (.int .i64 u.1)).setCell ⟨g + 1, 1, none⟩ (.int .i64 u.2)) from HM3.out.trans HMX4.out (fun i hi h => by have h1 := HM2.out.size; have h2 := HG.out; have h3 : g ≤ i := h; omega))
    clear HMX4
    go_wp2_with fail
    refine (less_any low v _ OL.out OV.out).mono ?_
    rintro e w5 ⟨rfl, hm5⟩
    have HBU5 := hid_ (hm5.bk HBU4.out id)
    have HBV5 := hid_ (hm5.bk HBV4.out id)
    have H5 := hid_ (H4.out.mod hm5 id id id)
    have HM5 := hid_ (((HM4.out.trans hm5 (fun _ _ => False.elim)) : Mod Nothing w w5).mono (S' := In3 gk gl gh) (fun _ _ => False.elim))
    clear hm5 u0 u1 fu0 fu1 hul l0 l1 fl0 fl1 hll
    cases hb2 : Ra.less low v
    · obtain ⟨v0, v1, fv0, fv1, hvl⟩ := HBV5.out.two
      obtain ⟨h0, h1, fh0, fh1, hhl⟩ := H5.out.high.two
      simp only at h0 h1
      go_wp2_with fail
      refine (less_any u high _ OU.out OH.out).mono ?_
      rintro e w7 ⟨rfl, hm7⟩
      have HBV7 := hid_ (hm7.bk HBV5.out id)
      have H7 := hid_ (H5.out.mod hm7 id id id)
      have HM7 := hid_ (HM5.out.trans hm7 (fun _ _ => False.elim))
      clear hm7 v0 v1 fv0 fv1 hvl h0 h1 fh0 fh1 hhl
      obtain ⟨v0, v1, fv0, fv1, hvl⟩ := HBV7.out.two
      obtain ⟨h0, h1, fh0, fh1, hhl⟩ := H7.out.high.two
      simp only at h0 h1
      cases hb3 : Ra.less u high
      · go_wp2
        go_end0
        rw [show R = (low, high, okv) by rw [HR.out]; simp [hb1, hb2, hb3]]
        exact ⟨rfl, H7.out, HM7.out⟩
      · go_wp2
        go_end0
        rw [show R = (low, u, okv) by rw [HR.out]; simp [hb1, hb2, hb3]]
        exact ⟨rfl, ⟨(H7.out.ok.far (H7.out.ok.ne H7.out.high (by decide)) _).far (H7.out.ok.ne H7.out.high (by decide)) _, (H7.out.low.far H7.out.ne _).far H7.out.ne _, (H7.out.high.set 0 _).set 1 _, H7.out.ne⟩, (HM7.out.setCell (p := ⟨gh, 0, none⟩) (fun _ => .inr (.inr rfl)) _).setCell (p := ⟨gh, 1, none⟩) (fun _ => .inr (.inr rfl)) _⟩
    · obtain ⟨u0, u1, fu0, fu1, hul⟩ := HBU5.out.two
      obtain ⟨l0, l1, fl0, fl1, hll⟩ := H5.out.low.two
      obtain ⟨v0, v1, fv0, fv1, hvl⟩ := HBV5.out.two
      obtain ⟨h0, h1, fh0, fh1, hhl⟩ := H5.out.high.two
      simp only at l0 l1 h0 h1
      have hne := HNE.out
      have h6 : Cap ((w5.setCell ⟨gl, 0, none⟩ (.int .i64 v.1)).setCell ⟨gl, 1, none⟩ (.int .i64 v.2)) gk gl gh (v, high, okv) := ⟨(H5.out.ok.far (H5.out.ok.ne H5.out.low (by decide)) _).far (H5.out.ok.ne H5.out.low (by decide)) _, (H5.out.low.set 0 _).set 1 _, (H5.out.high.far (Ne.symm hne) _).far (Ne.symm hne) _, hne⟩
      have hbv6 : Bk ((w5.setCell ⟨gl, 0, none⟩ (.int .i64 v.1)).setCell ⟨gl, 1, none⟩ (.int .i64 v.2)) (g + 1) 60 [.int .i64 u.1, .int .i64 u.2] := (HBV5.out.far (by show g + 1 ≠ gl; omega) _).far (by show g + 1 ≠ gl; omega) _
      have hm6 : Mod (In3 gk gl gh) w ((w5.setCell ⟨gl, 0, none⟩ (.int .i64 v.1)).setCell ⟨gl, 1, none⟩ (.int .i64 v.2)) := (HM5.out.setCell (p := ⟨gl, 0, none⟩) (fun _ => .inr (.inl rfl)) _).setCell (p := ⟨gl, 1, none⟩) (fun _ => .inr (.inl rfl)) _
      have H6 := hid_ h6
      have HBV6 := hid_ hbv6
      have HM6 := hid_ hm6
      clear h6 hbv6 hm6 hne
      obtain ⟨v0, v1, fv0, fv1, hvl⟩ := HBV6.out.two
      obtain ⟨h0, h1, fh0, fh1, hhl⟩ := H6.out.high.two
      simp only at h0 h1
      obtain ⟨v0, v1, fv0, fv1, hvl⟩ := HBV6.out.two
      obtain ⟨h0, h1, fh0, fh1, hhl⟩ := H6.out.high.two
      simp only at h0 h1
      go_wp2_with fail
      refine (less_any u high _ OU.out OH.out).mono ?_
      rintro e w7 ⟨rfl, hm7⟩
      have HBV7 := hid_ (hm7.bk HBV6.out id)
      have H7 := hid_ (H6.out.mod hm7 id id id)
      have HM7 := hid_ (HM6.out.trans hm7 (fun _ _ => False.elim))
      clear hm7 v0 v1 fv0 fv1 hvl h0 h1 fh0 fh1 hhl
      obtain ⟨v0, v1, fv0, fv1, hvl⟩ := HBV7.out.two
      obtain ⟨h0, h1, fh0, fh1, hhl⟩ := H7.out.high.two
      simp only at h0 h1
      cases hb3 : Ra.less u high
      · go_wp2
        go_end0
        rw [show R = (v, high, okv) by rw [HR.out]; simp [hb1, hb2, hb3]]
        exact ⟨rfl, H7.out, HM7.out⟩
      · go_wp2
        go_end0
        rw [show R = (v, u, okv) by rw [HR.out]; simp [hb1, hb2, hb3]]
        exact ⟨rfl, ⟨(H7.out.ok.far (H7.out.ok.ne H7.out.high (by decide)) _).far (H7.out.ok.ne H7.out.high (by decide)) _, (H7.out.low.far H7.out.ne _).far H7.out.ne _, (H7.out.high.set 0 _).set 1 _, H7.out.ne⟩, (HM7.out.setCell (p := ⟨gh, 0, none⟩) (fun _ => .inr (.inr rfl)) _).setCell (p := ⟨gh, 1, none⟩) (fun _ => .inr (.inr rfl)) _⟩

theorem bnd_any {w : World} {gk gl gh : Nat} {s : Ra × Ra × Bool} (h : Cap w gk gl gh s) (f d l m : Int) (h1 : RaOk s.1) (h2 : RaOk s.2.1) (hf : -2097152 ≤ f ∧ f ≤ 2097152) (hd : -4194304 ≤ d ∧ d ≤ 4194304) (hl : -2097152 ≤ l ∧ l ≤ 2097152) (hm : -2097152 ≤ m ∧ m ≤ 2097152) :
    Calls Try.prog 47 #[.int .i64 f, .int .i64 d, .int .i64 l, .int .i64 m, gptr gk, gptr gl, gptr gh] w (CapPost gk gl gh (bndF s f d l m) w) := by
  by_cases hd0 : d = 0
  · subst hd0; exact bnd_zero h f l m
  · exact bnd_some h f d l m hd0 h1 h2 hf hd hl hm

end Go.Proofs.Ytadiajlegajclaa
