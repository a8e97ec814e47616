/- contents, same: the texts of all sectors. -/
import Derived.Test.YtbioeeccbcaljaaB2
import Derived.Deep.AppendLies
set_option linter.unusedVariables false
set_option linter.unusedSimpArgs false
namespace Go.Proofs.Ytbioeeccbcaljaa
open Go.RowKit

def strV (l : List ByteArray) : List Value := l.map Value.string
/-- The slice v owns these texts; its row lies among the blocks from B on. -/
def StrsAt (w : World) (B : Nat) (v : Value) (l : List ByteArray) : Prop := w.ownsRow B 9 1 v l.length (strV l)

theorem Try.info9 : (Try.prog.info? 9).map (fun i => (i.zero, i.size, i.bytes)) = some (some (.string ⟨#[]⟩), 1, 16) := by kernel_rfl

def DK.textAt (A : DK) (i : Nat) : ByteArray := readQ (A.sec i) A.q i
def DK.texts (A : DK) : List ByteArray := (List.range A.n).map A.textAt

theorem readQ_size (i : Nat) : ∀ (q : List (Nat × ByteArray)) (s : ByteArray), s.size = 64 → (∀ p ∈ q, p.2.size = 64) → (readQ s q i).size = 64
  | [], s, h, _ => h
  | p :: q, s, h, hq => by
    have : readQ s (p :: q) i = readQ (if p.1 = i then p.2 else s) q i := rfl
    rw [this]
    refine readQ_size i q _ ?_ (fun p' hp => hq p' (by simp [hp]))
    split
    · exact hq p (by simp)
    · exact h

theorem DK.Ok.textAt_size {A : DK} (h : A.Ok) (i : Nat) (hi : i < A.n) : (A.textAt i).size = 64 := by
  refine readQ_size i A.q _ ?_ (fun p hp => (h.items p hp).2)
  show ((A.st.drop (i * 64)).take 64).toArray.size = 64
  have := h.len
  simp
  omega

theorem DK.read_on (A : DK) (ho : A.off = false) (i : Nat) (hi : i < A.n) : A.read (i : Int) = (A.textAt i, 0) := by
  rw [DK.read, if_neg (by rw [ho]; simp), if_pos (by omega)]; rfl

def ContentsPost (A : DK) (w : World) (e : Ending) (w' : World) : Prop := ∃ v, e = .returned (.tuple #[v, .bool true]) ∧ StrsAt w' w.heap.size v A.texts ∧ Mod Nothing w w'

set_option maxHeartbeats 1000000 in
theorem contents_on {w : World} {F : DF} {A : DK} (h : DiskAt w F A) (ho : A.off = false) : Calls Try.prog 22 #[dptr F, .int .i64 (A.n : Int)] w (ContentsPost A w) := by
  have H := hid_ h
  have HO := hid_ ho
  have htop := h.ok.top
  obtain ⟨i0, hi0, hz0, hz1, hz2⟩ := info_parts Try.info9
  have HI0 := hid_ hi0
  have HZ0 := hid_ hz0
  have HZ1 := hid_ hz1
  have HZ2 := hid_ hz2
  clear h ho hi0 hz0 hz1 hz2
  go_enter Try.func22, Try.ntmps22
  go_wp2_with fail
  go_loopw [6, 7] (fun v i wr => ∃ k : Nat, k ≤ A.n ∧ i = .int .i64 k ∧ wr.ownsRow w.heap.size 9 1 v k (strV (A.texts.take k)) ∧ Mod Nothing w wr) (fun _ i _ => A.n - (intOf i).toNat)
  case atStart => exact ⟨0, Nat.zero_le _, rfl, World.ownsRow_nil _ _ _ _, Mod.refl _ _⟩
  case round =>
    obtain ⟨k, hk, rfl, hown, hm⟩ := hrel
    rename Value => v
    have HOWN := hid_ hown
    have HM := hid_ hm
    clear hown hm
    by_cases hlt : k < A.n
    · go_wp2_with fail
      refine (read_any (H.out.mod HM.out (fun _ _ => id)) (k : Int)).mono ?_
      rw [A.read_on HO.out k hlt]
      rintro e w1 ⟨rfl, hm1⟩
      have HM1 := hid_ hm1
      have hown1 := own_keep HOWN.out (fun g hg => hm1.block g (own_lt HOWN.out hg) id)
      have HOWN1 := hid_ hown1
      have hts := H.out.ok.textAt_size k hlt
      have hts' : (((A.textAt k).size : Int) != 64) = false := by rw [hts]; rfl
      have HTS := hid_ hts
      clear hm1 hown1 hts
      go_wp2_with (at_builtin; refine wpList_append_lies _ rfl (.tmp 28) (.tmp 30) 39 rfl w.heap.size 9 i0 _ 1 16 Try.underlying39 HI0.out HZ0.out HZ1.out HZ2.out rfl (by decide) _ k (strV (A.texts.take k)) rfl (HOWN1.out.alloc _) ⟨w1.heap.size, 0, none⟩ 1 1 [.string (A.textAt k)] rfl rfl (World.news_of_block (cs := #[.string (A.textAt k)]) (t := 9) (fr := (0, 0)) (heap_alloc_new w1 _)) (by simp [Value.oneCell']) (by decide) (by unfold maxLen; omega) (by omega) (by have h1 := HM.out.size; have h2 := HM1.out.size; simp; omega) (w1.heap.size + 1) (by simp) ?_)
      intro g cap w2 hown2 hgrow2 _ _
      have e : strV (A.texts.take k) ++ [.string (A.textAt k)] = strV (A.texts.take (k + 1)) := by
        have : A.texts[k]? = some (A.textAt k) := by simp [DK.texts, hlt]
        rw [List.take_add_one, this]; simp [strV]
      rw [e] at hown2
      have HOWN2 := hid_ hown2
      have HM2 := hid_ (((HM.out.trans HM1.out (fun _ _ h => h)).alloc _).grown hgrow2 (fun g' hg' hl => absurd hl (by have := own_ge HOWN.out hg'; omega)))
      clear hown2 hgrow2 e
      go_wp2
      go_roundw
      case rel => exact ⟨k + 1, by omega, by go_num, HOWN2.out, HM2.out⟩
      case measure => simp [intOf]; omega
    · have hkn : k = A.n := by omega
      subst hkn
      go_wp2
      go_returns
      have e : A.texts.take A.n = A.texts := List.take_of_length_le (by simp [DK.texts])
      rw [e] at HOWN
      have e2 : A.texts.length = A.n := by simp [DK.texts]
      refine ⟨_, rfl, ?_, HM.out⟩
      rw [StrsAt, e2]
      exact HOWN.out

/-- The slice A reads as these texts. -/
def SRow (w : World) (A : Option Addr) (l : List ByteArray) : Prop :=
  ∀ k s, l[k]? = some s → ∃ g, A = some ⟨g, 0, none⟩ ∧ g < w.heap.size ∧ w.cell? ⟨g, k, none⟩ = some (.string s)

theorem StrsAt.form {w : World} {B : Nat} {v : Value} {l : List ByteArray} (h : StrsAt w B v l) : ∃ A c, v = .slice A l.length c ∧ SRow w A l := by
  rcases h.2 with ⟨rfl, hn⟩ | ⟨g, cap, cur, rfl, _, hh, hnc, _, hcs, ht⟩
  · exact ⟨none, 0, by rw [hn], fun k s hk => by rw [List.eq_nil_of_length_eq_zero hn] at hk; simp at hk⟩
  · refine ⟨_, cap, rfl, fun k s hk => ⟨g, rfl, lt_of_block hh, ?_⟩⟩
    have hkl : k < l.length := (List.getElem?_eq_some_iff.1 hk).1
    rw [cell_of_row w g k cur 9 (0, 0) hh]
    have e : cur.toList[k]? = (strV l)[k]? := by rw [← ht, List.getElem?_take_of_lt (by omega)]
    have e2 : cur[k]? = cur.toList[k]? := by simp
    rw [e2, e]; simp [strV, hk]

theorem ba_beq (s t : ByteArray) : (s.toList == t.toList) = decide (s = t) := by
  rw [ba_toList, ba_toList]
  by_cases h : s = t
  · subst h; simp
  · rw [decide_eq_false h, beq_eq_false_iff_ne]
    exact fun e => h (ba_ext e)

set_option maxHeartbeats 1000000 in
theorem same_row (w : World) (A1 A2 : Option Addr) (l1 l2 : List ByteArray) (n1 n2 c1 c2 : Nat) (e1 : l1.length = n1) (e2 : l2.length = n2) (h1 : SRow w A1 l1) (h2 : SRow w A2 l2) (hm : n1 ≤ 1000000000) (hm2 : n2 ≤ 1000000000) :
    Calls Try.prog 27 #[.slice A1 n1 c1, .slice A2 n2 c2] w fun e w' => e = .returned (.bool (decide (l1 = l2))) ∧ Mod Nothing w w' := by
  have E1 := hid_ e1
  have E2 := hid_ e2
  have H1 := hid_ h1
  have H2 := hid_ h2
  clear e1 e2 h1 h2
  by_cases hne : n1 = n2
  · subst hne
    go_enter Try.func27, Try.ntmps27
    go_wp2
    go_loopw [5] (fun v wr => ∃ k : Nat, k ≤ n1 ∧ v = .int .i64 k ∧ l1.take k = l2.take k ∧ ∃ nq, wr = w.drewN nq) (fun v _ => n1 - (intOf v).toNat)
    case atStart => exact ⟨0, Nat.zero_le _, rfl, rfl, 0, rfl⟩
    case round =>
      obtain ⟨k, hk, rfl, ht, nq, rfl⟩ := hrel
      have HT := hid_ ht
      clear ht
      by_cases hlt : k < n1
      · obtain ⟨s, hs⟩ : ∃ s, l1[k]? = some s := ⟨_, List.getElem?_eq_getElem (by rw [E1.out]; exact hlt)⟩
        obtain ⟨t, htt⟩ : ∃ t, l2[k]? = some t := ⟨_, List.getElem?_eq_getElem (by rw [E2.out]; exact hlt)⟩
        obtain ⟨g1, hA1, hg1, c1⟩ := H1.out k s hs
        obtain ⟨g2, hA2, hg2, c2⟩ := H2.out k t htt
        have HS := hid_ hs
        have HTT := hid_ htt
        have a1 : (0 : Int) ≤ k := by omega
        have a2 : (k : Int) < n1 := by omega
        subst hA1
        subst hA2
        clear hs htt
        by_cases hst : s = t
        · have hb := ba_beq s t
          rw [decide_eq_true hst] at hb
          have HST := hid_ hst
          clear hst
          go_wp2_with fail
          go_quiet (fail)
          go_wp2
          go_roundw
          case rel =>
            refine ⟨k + 1, by omega, by go_num, ?_, _, rfl⟩
            rw [List.take_add_one, List.take_add_one, HS.out, HTT.out, HT.out, HST.out]
          case measure => simp [intOf]; omega
        · have hb := ba_beq s t
          rw [decide_eq_false hst] at hb
          have HST := hid_ hst
          clear hst
          go_wp2_with fail
          go_quiet (fail)
          go_wp2
          go_ret
          have e : l1 ≠ l2 := fun e => by
            have h1 := HS.out
            rw [e, HTT.out] at h1
            exact HST.out (Option.some.inj h1).symm
          rw [decide_eq_false e]
          exact ⟨rfl, ((Mod.refl _ _).drewN _).drewN _⟩
      · have hkn : k = n1 := by omega
        subst hkn
        go_wp2
        go_ret
        have e : l1 = l2 := by
          have := HT.out
          rwa [List.take_of_length_le (by rw [E1.out]; exact Nat.le_refl _), List.take_of_length_le (by rw [E2.out]; exact Nat.le_refl _)] at this
        rw [decide_eq_true e]
        exact ⟨rfl, (Mod.refl _ _).drewN _⟩
  · have hb : ((n1 : Int) != (n2 : Int)) = true := by rw [bne_iff_ne]; omega
    have HN := hid_ hne
    clear hne
    go_enter Try.func27, Try.ntmps27
    go_wp2
    go_ret
    have e : l1 ≠ l2 := fun e => HN.out (by rw [← E1.out, ← E2.out, e])
    rw [decide_eq_false e]
    exact ⟨rfl, Mod.refl _ _⟩

theorem same_any {w : World} {B1 B2 : Nat} {v1 v2 : Value} {l1 l2 : List ByteArray} (h1 : StrsAt w B1 v1 l1) (h2 : StrsAt w B2 v2 l2) (hm : l1.length ≤ 1000000000) (hm2 : l2.length ≤ 1000000000) :
    Calls Try.prog 27 #[v1, v2] w fun e w' => e = .returned (.bool (decide (l1 = l2))) ∧ Mod Nothing w w' := by
  obtain ⟨A1, c1, rfl, r1⟩ := h1.form
  obtain ⟨A2, c2, rfl, r2⟩ := h2.form
  exact same_row w A1 A2 l1 l2 _ _ c1 c2 rfl rfl r1 r2 hm hm2

end Go.Proofs.Ytbioeeccbcaljaa
