/-
  parser.same at two parsers that are equal.
  Both parsers' rows lie in memory.
-/
import Derived.Test.YtalklhjmnoodeaaCodeMake
namespace Go.Proofs.Ytalklhjmnoodeaa
open Go.RowKit Go.Sort Go.Deep
set_option linter.unusedVariables false

theorem rowI_get {m : Nat} (g : Nat → Int) {j : Nat} (h : j < m) : ((List.range m).map g).getD j 0 = g j := by
  rw [List.getD_eq_getElem?_getD]; simp [h]
theorem equalI_any (v1 v2 : Value) (m : Nat) (g : Nat → Int) (w : World) (h1 : Sl 1 w v1 m (rowV m g)) (h2 : Sl 1 w v2 m (rowV m g)) :
    Calls Try.prog 31 #[v1, v2] w fun e w' => e = .returned (.bool true) ∧ Dr w w' := by
  obtain ⟨a1, c1, rfl, _, l1, m1, r1⟩ := h1
  obtain ⟨a2, c2, rfl, _, l2, m2, r2⟩ := h2
  by_cases h0 : m = 0
  · subst h0
    refine (Try.slices_Equal_int_empty a1 a2 c1 0 c2 w (by omega)).mono ?_
    rintro e w' ⟨rfl, rfl⟩
    exact ⟨rfl, Dr.refl _⟩
  · obtain ⟨b1, o1, rfl, k1⟩ := Sl.pos r1 (by omega)
    obtain ⟨b2, o2, rfl, k2⟩ := Sl.pos r2 (by omega)
    refine (Try.slices_Equal_int b1 o1 m c1 b2 o2 m c2 ((List.range m).map g) ((List.range m).map g) w (by simp) (by simp) (by omega) (by omega) (fun j hj => ?_) (fun j hj => ?_)).mono ?_
    · have hj' : j < m := by simpa using hj
      rw [k1 j _ (rowV_get g hj'), rowI_get g hj']
    · have hj' : j < m := by simpa using hj
      rw [k2 j _ (rowV_get g hj'), rowI_get g hj']
    · rintro e w' ⟨rfl, n, rfl⟩
      exact ⟨by simp, n, rfl⟩
theorem equalS_any (v1 v2 : Value) (S : List ByteArray) (w : World) (h1 : Sl 1 w v1 S.length (strs S)) (h2 : Sl 1 w v2 S.length (strs S)) :
    Calls Try.prog 111 #[v1, v2] w fun e w' => e = .returned (.bool true) ∧ Dr w w' := by
  obtain ⟨a1, c1, rfl, _, l1, m1, r1⟩ := h1
  obtain ⟨a2, c2, rfl, _, l2, m2, r2⟩ := h2
  by_cases h0 : S.length = 0
  · rw [h0]
    refine (Try.slices_Equal_string_empty a1 a2 c1 0 c2 w (by omega)).mono ?_
    rintro e w' ⟨rfl, rfl⟩
    exact ⟨rfl, Dr.refl _⟩
  · obtain ⟨b1, o1, rfl, k1⟩ := Sl.pos r1 (by omega)
    obtain ⟨b2, o2, rfl, k2⟩ := Sl.pos r2 (by omega)
    have hg : ∀ j, j < S.length → (strs S)[j]? = some (.string (S.getD j ByteArray.empty)) := fun j hj => by
      obtain ⟨x, hx⟩ := some_of_lt hj
      rw [strs_get hx, List.getD_eq_getElem?_getD, hx]; rfl
    refine (Try.slices_Equal_string b1 o1 S.length c1 b2 o2 S.length c2 S S w (Nat.le_refl _) (Nat.le_refl _) (by omega) (by omega) (fun j hj => k1 j _ (hg j hj)) (fun j hj => k2 j _ (hg j hj))).mono ?_
    rintro e w' ⟨rfl, n, rfl⟩
    exact ⟨by simp, n, rfl⟩
set_option maxHeartbeats 1000000 in
theorem equalF_any (v1 v2 : Value) (n m : Nat) (f : Nat → Nat → Int) (w : World) (h1 : Mt w v1 n m f) (h2 : Mt w v2 n m f) :
    Calls Try.prog 112 #[v1, v2, .func (.func 31) #[] #[]] w fun e w' => e = .returned (.bool true) ∧ Dr w w' := by
  obtain ⟨a1, c1, rfl, l1, m1⟩ := h1.slice
  obtain ⟨a2, c2, rfl, l2, m2⟩ := h2.slice
  have H1 := hid h1
  have H2 := hid h2
  clear h1 h2
  go_enter Try.func112, Try.ntmps112
  go_wp2
  go_loopw [17] (fun i wr => ∃ k : Nat, k ≤ n ∧ i = .int .i64 k ∧ Dr w wr) (fun i _ => n - (intOf i).toNat)
  case atStart => exact ⟨0, Nat.zero_le _, rfl, Dr.refl _⟩
  case round =>
    obtain ⟨k, hk, rfl, hD⟩ := hrel
    have HD := hid hD
    by_cases hlt : k < n
    · obtain ⟨b1, o1, r1, k1, rfl, e1, s1⟩ := (H1.out.dr hD).row hlt
      obtain ⟨b2, o2, r2, k2, rfl, e2, s2⟩ := (H2.out.dr hD).row hlt
      have HE := hid (equalI_any _ _ m (f k) _ s1 s2)
      clear hD s1 s2
      go_wp2_with (go_at_call 31; refine HE.out.mono ?_; rintro e w' ⟨rfl, hD2⟩)
      go_roundw
      case rel => exact ⟨k + 1, by omega, by go_num, HD.out.trans hD2⟩
      case measure => simp [intOf]; omega
    · go_wp2
      go_ret
      exact ⟨rfl, HD.out⟩
set_option maxHeartbeats 2000000 in
theorem psame_any (q : Int) (n m : Nat) (st : List ByteArray) (nx em : Nat → Nat → Int) (s1 n1 e1 s2 n2 e2 : Value) (w : World) (hn : st.length = n) (h1 : PVal w s1 n1 e1 n m st nx em) (h2 : PVal w s2 n2 e2 n m st nx em) :
    Calls Try.prog 94 #[.agg #[.int .i64 q, s1, n1, e1], .agg #[.int .i64 q, s2, n2, e2]] w fun e w' => e = .returned (.bool true) ∧ Below w.heap.size w w' := by
  subst hn
  have HE := hid (fun X (h : PVal X s1 n1 e1 st.length m st nx em) (h' : PVal X s2 n2 e2 st.length m st nx em) => equalS_any s1 s2 st X h.s h'.s)
  have HN := hid (fun X (h : PVal X s1 n1 e1 st.length m st nx em) (h' : PVal X s2 n2 e2 st.length m st nx em) => equalF_any n1 n2 st.length m nx X h.nx h'.nx)
  have HM := hid (fun X (h : PVal X s1 n1 e1 st.length m st nx em) (h' : PVal X s2 n2 e2 st.length m st nx em) => equalF_any e1 e2 st.length m em X h.em h'.em)
  have H := hid (And.intro h1 h2)
  obtain ⟨a1, c1, rfl, _⟩ := id h1.s
  obtain ⟨a2, c2, rfl, _, _⟩ := h1.nx.slice
  obtain ⟨a3, c3, rfl, _, _⟩ := h1.em.slice
  obtain ⟨a4, c4, rfl, _⟩ := id h2.s
  obtain ⟨a5, c5, rfl, _, _⟩ := h2.nx.slice
  obtain ⟨a6, c6, rfl, _, _⟩ := h2.em.slice
  clear h1 h2
  go_enter Try.func94, Try.ntmps94
  go_upto_region 1 with fail
  obtain ⟨w0, hw0⟩ : ∃ w0, w.alloc (.cells #[.int .i64 q, .slice a1 st.length c1, .slice a2 st.length c2, .slice a3 st.length c3] 36) = w0 := ⟨_, rfl⟩
  obtain ⟨hb0, p0, p1, p2, p3⟩ := boxP hw0
  have hs0 : w0.heap.size = w.heap.size + 1 := by rw [← hw0]; simp
  rw [hw0]
  obtain ⟨w1, hw1⟩ : ∃ w1, w0.alloc (.cells #[.int .i64 q, .slice a4 st.length c4, .slice a5 st.length c5, .slice a6 st.length c6] 36) = w1 := ⟨_, rfl⟩
  obtain ⟨hb1, r0, r1, r2, r3⟩ := boxP hw1
  rw [hw1]
  have HB0 := hid hb0
  have HB1 := hid (bel_step HB0.out hb1)
  rw [hs0] at r0 r1 r2 r3
  have p0 := keeps hb1 p0
  have p1 := keeps hb1 p1
  have p2 := keeps hb1 p2
  have p3 := keeps hb1 p3
  clear hw0 hw1 hb0 hb1 hs0
  go_wp2_with (first
    | (go_at_call 112; refine (HM.out _ (H.out.1.below HB3.out) (H.out.2.below HB3.out)).mono ?_; rintro e w4 ⟨rfl, hD4⟩; have HB4 := hid (bel_step HB3.out (hD4.below _)))
    | (go_at_call 112; refine (HN.out _ (H.out.1.below HB2.out) (H.out.2.below HB2.out)).mono ?_; rintro e w3 ⟨rfl, hD3⟩; have p3 := keeps (hD3.below _) p3; have r3 := keeps (hD3.below _) r3; have HB3 := hid (bel_step HB2.out (hD3.below _)); clear hD3)
    | (go_at_call 111; refine (HE.out _ (H.out.1.below HB1.out) (H.out.2.below HB1.out)).mono ?_; rintro e w2 ⟨rfl, hD2⟩; have p2 := keeps (hD2.below _) p2; have r2 := keeps (hD2.below _) r2; have p3 := keeps (hD2.below _) p3; have r3 := keeps (hD2.below _) r3; have HB2 := hid (bel_step HB1.out (hD2.below _)); clear hD2))
  go_ret
  exact ⟨rfl, HB4.out⟩
end Go.Proofs.Ytalklhjmnoodeaa
