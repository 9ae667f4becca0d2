/-
  parser.Automaton: why a code has no complete parser.
  No condition beyond the words lying in a slice.
-/
import Derived.Test.YtjcdddccnfiemaaDoorPMach
namespace Go.Proofs.YtjcdddccnfiemaaDoor
open Go.RowKit Go.Deep
set_option linter.unusedVariables false

/-- Does a row hold -1? -/
def hasM (m : Nat) (g : Nat → Int) : Bool := ((List.range m).map g).contains (-1)
theorem hasM_iff {m : Nat} {g : Nat → Int} : hasM m g = true ↔ ∃ j < m, g j = -1 := by
  unfold hasM
  rw [List.contains_iff_mem, List.mem_map]
  simp only [List.mem_range]
theorem hasM_any (v : Value) (m : Nat) (g : Nat → Int) (w : World) (hl : Sl 1 w v m (rowV m g)) :
    Calls Tryd.prog 29 #[v] w fun e w' => e = .returned (.bool (hasM m g)) ∧ w = w' := by
  have HC := hid (show Calls Tryd.prog 30 #[v, .int .i64 (-1)] w fun e w' => e = .returned (.bool (hasM m g)) ∧ w = w' from by
    obtain ⟨ao, cap, rfl, _, h1, h2, h3⟩ := hl
    by_cases h0 : m = 0
    · subst h0
      refine (Tryd.slices_Contains_int_empty ao cap (-1) w).mono ?_
      rintro e w' ⟨rfl, rfl⟩
      exact ⟨rfl, rfl⟩
    · rcases h3 with h3 | ⟨b, o, rfl, hc⟩
      · omega
      · refine (Tryd.slices_Contains_int b o m cap ((List.range m).map g) (-1) w (by simp) (by omega) fun j hj => ?_).mono ?_
        · have hj' : j < m := by simpa using hj
          rw [hc j _ (rowV_get g hj'), List.getD_eq_getElem?_getD]
          simp [hj']
        · rintro e w' ⟨rfl, rfl⟩
          refine ⟨ret_bool ?_, rfl⟩
          rw [List.take_of_length_le (by simp)]; rfl)
  obtain ⟨ao, cap, rfl, _⟩ := hl
  go_enter Tryd.func29, Tryd.ntmps29
  go_wp2_with (go_at_call 30; refine HC.out.mono ?_; rintro e w1 ⟨rfl, rfl⟩)
  go_ret
  exact ⟨rfl, rfl⟩
def stuckM (n m : Nat) (f : Nat → Nat → Int) : Bool := (List.range n).any fun i => hasM m (f i)
theorem stuckM_iff {n m : Nat} {f : Nat → Nat → Int} : stuckM n m f = true ↔ ∃ i < n, ∃ j < m, f i j = -1 := by
  unfold stuckM
  simp only [List.any_eq_true, List.mem_range, hasM_iff]
theorem stuck_any (v : Value) (n m : Nat) (f : Nat → Nat → Int) (w : World) (hl : Mt w v n m f) :
    Calls Tryd.prog 28 #[v, .func (.func 29) #[] #[]] w fun e w' => e = .returned (.bool (stuckM n m f)) ∧ Dr w w' := by
  obtain ⟨rs, hs, hr⟩ := hl
  obtain ⟨ao, cap, rfl, h0, h1, h2, h3⟩ := hs
  by_cases hn : n = 0
  · subst hn
    refine (Tryd.slices_ContainsFunc_empty_f28 (α := Nat) ao cap _ w).mono ?_
    rintro e w' ⟨rfl, rfl⟩
    exact ⟨rfl, Dr.refl _⟩
  · rcases h3 with h3 | ⟨b, o, rfl, hc⟩
    · omega
    · have eg : ∀ args w, (callFunc 29 args).run Tryd.prog w = .ok (.enter 29 args) w := enters_of Tryd.func29 (by kernel_rfl) rfl
      have hp : PredAt Tryd.prog 29 #[] (fun i : Nat => rs.getD i (.slice none 0 0)) (fun i => decide (i < n) && hasM m (f i)) w := by
        intro W i hB
        by_cases hi : i < n
        · obtain ⟨r, hri, hsr⟩ := hr i hi
          have e : rs.getD i (.slice none 0 0) = r := by rw [List.getD_eq_getElem?_getD, hri]; rfl
          dsimp only
          rw [e, decide_eq_true hi, Bool.true_and]
          refine (hasM_any r m (f i) W (hsr.below hB)).mono ?_
          rintro e w' ⟨rfl, rfl⟩; exact ⟨rfl, 0, rfl⟩
        · have e : rs.getD i (.slice none 0 0) = .slice none 0 0 := by rw [List.getD_eq_getElem?_getD, List.getElem?_eq_none (by omega)]; rfl
          dsimp only
          rw [e, decide_eq_false hi, Bool.false_and]
          refine (hasM_any (.slice none 0 0) 0 (f i) W (Sl.nil 1 W)).mono ?_
          rintro e w' ⟨rfl, rfl⟩; exact ⟨rfl, 0, rfl⟩
      refine (Tryd.slices_ContainsFunc_f28 _ _ 29 #[] eg b o n cap (List.range n) w hp (by simp) (by omega) fun j hj => ?_).mono ?_
      · have hj' : j < n := by simpa using hj
        obtain ⟨r, hri, _⟩ := hr j hj'
        have e2 : (List.range n)[j]! = j := by rw [List.getElem!_eq_getElem?_getD]; simp [hj']
        rw [hc j r hri, e2, List.getD_eq_getElem?_getD, hri]
        rfl
      · rintro e w' ⟨rfl, k, rfl⟩
        refine ⟨ret_bool ?_, k, rfl⟩
        rw [List.take_of_length_le (by simp), Bool.eq_iff_iff, stuckM, List.any_eq_true, List.any_eq_true]
        constructor
        · rintro ⟨i, hi, h⟩
          simp only [Bool.and_eq_true, decide_eq_true_eq] at h
          exact ⟨i, hi, h.2⟩
        · rintro ⟨i, hi, h⟩
          have hi' := List.mem_range.1 hi
          exact ⟨i, hi, by simp [hi', h]⟩

/-- Why a code has no complete parser. -/
def aErr (q : Int) (ws : List ByteArray) : Int := if bErr q ws ≠ 0 then bErr q ws else if stuckM (sizeW ws) q.toNat (nxI ws) = true then 8 else 0
theorem aErr_zero {q : Int} {ws : List ByteArray} (h : aErr q ws = 0) : Valid45 q ws ∧ freeW ws ∧ fullW q ws := by
  unfold aErr at h
  split at h
  · rename_i h1; exact absurd h h1
  · rename_i h1
    have h1' : bErr q ws = 0 := by simpa using h1
    obtain ⟨h2, h3⟩ := bErr_zero.1 h1'
    split at h
    · simp at h
    · rename_i h4
      refine ⟨codeErr_zero h2, freeB_iff.1 h3, fun s hs a ha => ?_⟩
      have h5 := nxI_low ws s a
      by_cases e : nxI ws s a = -1
      · exact absurd (stuckM_iff.2 ⟨s, hs, a, ha, e⟩) h4
      · omega

theorem boxedA {w w0 : World} {q : Int} {v : Value} (h : (w.alloc (.cells #[.int .i64 q, v] 24)).alloc (.cells #[.int .i64 0, .slice none 0 0] 29) = w0) :
    Below w.heap.size w w0 ∧ w0.cell? ⟨w.heap.size, 0, none⟩ = some (.int .i64 q) ∧ w0.cell? ⟨w.heap.size, 1, none⟩ = some v ∧ w0.cell? ⟨w.heap.size + 1, 0, none⟩ = some (.int .i64 0) ∧ w0.cell? ⟨w.heap.size + 1, 1, none⟩ = some (.slice none 0 0) ∧ ∀ j, w0.frozen? ⟨w.heap.size + 1, j, none⟩ = false := by
  refine ⟨by rw [← h]; exact (bel_alloc _ _).alloc (by simp) _, by rw [← h]; simp, by rw [← h]; simp, by rw [← h]; simp, by rw [← h]; simp, ?_⟩
  intro j
  rw [← h, show w.heap.size + 1 = (w.alloc (.cells #[.int .i64 q, v] 24)).heap.size by simp]
  exact frozen_laid (Below.refl _ _) j
theorem set2_below {w X : World} (h : Below w.heap.size w X) {g : Nat} (hg : w.heap.size ≤ g) (a b : Value) : Below w.heap.size w ((X.setCell ⟨g, 0, none⟩ a).setCell ⟨g, 1, none⟩ b) :=
  (h.setCell (p := ⟨g, 0, none⟩) hg _).setCell (p := ⟨g, 1, none⟩) hg _
/-- A parser put into a block. -/
theorem boxP {w w0 : World} {q : Int} {vS vN vE : Value} (h : w.alloc (.cells #[.int .i64 q, vS, vN, vE] 27) = w0) :
    Below w.heap.size w w0 ∧ w0.cell? ⟨w.heap.size, 0, none⟩ = some (.int .i64 q) ∧ w0.cell? ⟨w.heap.size, 1, none⟩ = some vS ∧ w0.cell? ⟨w.heap.size, 2, none⟩ = some vN ∧ w0.cell? ⟨w.heap.size, 3, none⟩ = some vE := by
  subst h
  exact ⟨bel_alloc _ _, by simp, by simp, by simp, by simp⟩
theorem PRes.pval {w : World} {B : Nat} {vS vN vE : Value} {n q : Nat} {st : List ByteArray} {nx em : Nat → Nat → Int} (h : PRes w B vS vN vE n q st nx em) (hq : q ≤ 1000000) : PVal w vS vN vE n q st nx em := by
  obtain ⟨h1, ⟨g, h2⟩, g', h3⟩ := h
  exact ⟨Sl.of_owns h1, h2.mt hq, h3.mt hq⟩

set_option maxRecDepth 100000 in
set_option maxHeartbeats 2000000 in
theorem auto_any (q : Int) (v : Value) (ws : List ByteArray) (w : World) (hl : Sl 1 w v ws.length (strs ws)) :
    Calls Tryd.prog 11 #[.agg #[.int .i64 q, v]] w fun e w' => (∃ (a : Int) (ao : Option Addr) (n c : Nat), e = .returned (.tuple #[.agg #[.int .i64 a, .slice ao n c], .int .i64 (aErr q ws)])) ∧ Below w.heap.size w w' := by
  have HL := hid hl
  have HBd := hid (fun X h => build_any q v ws X h)
  obtain ⟨ao, cap, rfl, _, hl1, hl2, hl3⟩ := hl
  clear hl3
  go_enter Tryd.func11, Tryd.ntmps11
  go_upto_region 1 with fail
  obtain ⟨w0, hw0⟩ : ∃ w0, (w.alloc (.cells #[.int .i64 q, .slice ao ws.length cap] 24)).alloc (.cells #[.int .i64 0, .slice none 0 0] 29) = w0 := ⟨_, rfl⟩
  obtain ⟨hb0, c0, c1, r0, r1, rf⟩ := boxedA hw0
  rw [hw0]
  have HB0 := hid hb0
  have HR := hid (And.intro r0 (And.intro r1 rf))
  clear hw0 hb0 r0 r1 rf
  by_cases hE : bErr q ws = 0
  · have HE := hid (show aErr q ws = if stuckM (sizeW ws) q.toNat (nxI ws) = true then 8 else 0 by rw [aErr, if_neg (by simp [hE])])
    go_upto_region 2 with (go_at_call 12; refine (HBd.out _ (HL.out.below HB0.out)).mono ?_; rintro e w1 (⟨hne, _⟩ | ⟨_, vS, vN, vE, rfl, hres, hb1⟩); (exact absurd hE hne); have HB1 := hid (bel_step HB0.out hb1); have HRes := hid hres; obtain ⟨aS, cS, aN, cN, aE, cE, rfl, rfl, rfl⟩ := hres.slices; have r0 := keeps hb1 HR.out.1; have r1 := keeps hb1 HR.out.2.1; have rf0 := keeps_frozen hb1 HR.out.1 (HR.out.2.2 0); have rf1 := keeps_frozen hb1 HR.out.2.1 (HR.out.2.2 1))
    obtain ⟨wp, hwp⟩ : ∃ wp, w1.alloc (.cells #[.int .i64 q, .slice aS (sizeW ws) cS, .slice aN (sizeW ws) cN, .slice aE (sizeW ws) cE] 27) = wp := ⟨_, rfl⟩
    obtain ⟨hbp, p0, p1, p2, p3⟩ := boxP hwp
    have rf0 := keeps_frozen hbp r0 rf0
    have rf1 := keeps_frozen hbp r1 rf1
    have r0 := keeps hbp r0
    have r1 := keeps hbp r1
    have HBp := hid (bel_step HB1.out hbp)
    have HSt := hid (fun X h => stuck_any (.slice aN (sizeW ws) cN) (sizeW ws) q.toNat (nxI ws) X h)
    have HMt := hid ((HRes.out.keep hbp).pval (by have := (codeErr_zero (bErr_zero.1 hE).1).q16; omega)).nx
    rw [hwp]
    clear hwp hbp hb1 HRes HR HBd c0 c1 hres
    cases hs : stuckM (sizeW ws) q.toNat (nxI ws)
    · rw [hs] at HSt HE
      clear hs
      go_wp2_with (go_at_call 28; refine (HSt.out _ HMt.out).mono ?_; rintro e w2 ⟨rfl, hD⟩; have rf0 := keeps_frozen (hD.below _) r0 rf0; have rf1 := keeps_frozen (hD.below _) r1 rf1; have r0 := keeps (hD.below _) r0; have r1 := keeps (hD.below _) r1; have p0 := keeps (hD.below _) p0; have p2 := keeps (hD.below _) p2)
      refine bodyPost_ret (v := .tuple #[.agg #[.int .i64 q, .slice aN (sizeW ws) cN], .int .i64 0]) ?_ rfl ⟨⟨_, _, _, _, by rw [HE.out]; rfl⟩, ?_⟩
      · simp [results, Tryd.results11, go_sem, r0, r1]
      · exact set2_below (bel_step HBp.out (hD.below _)) (by omega) _ _
    · rw [hs] at HSt HE
      clear hs
      go_wp2_with (go_at_call 28; refine (HSt.out _ HMt.out).mono ?_; rintro e w2 ⟨rfl, hD⟩; have rf0 := keeps_frozen (hD.below _) r0 rf0; have rf1 := keeps_frozen (hD.below _) r1 rf1; have r0 := keeps (hD.below _) r0; have r1 := keeps (hD.below _) r1; have p0 := keeps (hD.below _) p0; have p2 := keeps (hD.below _) p2)
      refine bodyPost_ret (v := .tuple #[.agg #[.int .i64 0, .slice none 0 0], .int .i64 8]) ?_ rfl ⟨⟨_, _, _, _, by rw [HE.out]; rfl⟩, ?_⟩
      · simp [results, Tryd.results11, go_sem, r0, r1]
      · exact set2_below (bel_step HBp.out (hD.below _)) (by omega) _ _
  · have HE := hid (show aErr q ws = bErr q ws by rw [aErr, if_pos hE])
    have hE2 : (bErr q ws != 0) = true := by simp [hE]
    go_upto_region 2 with (go_at_call 12; refine (HBd.out _ (HL.out.below HB0.out)).mono ?_; rintro e w1 (⟨_, rfl, hb1⟩ | ⟨h0, _⟩); rotate_left; (exact absurd h0 hE); unfold nilP; have HB1 := hid (bel_step HB0.out hb1); have r0 := keeps hb1 HR.out.1; have r1 := keeps hb1 HR.out.2.1; have rf0 := keeps_frozen hb1 HR.out.1 (HR.out.2.2 0); have rf1 := keeps_frozen hb1 HR.out.2.1 (HR.out.2.2 1))
    obtain ⟨wp, hwp⟩ : ∃ wp, w1.alloc (.cells #[.int .i64 0, .slice none 0 0, .slice none 0 0, .slice none 0 0] 27) = wp := ⟨_, rfl⟩
    obtain ⟨hbp, _⟩ := boxP hwp
    have rf0 := keeps_frozen hbp r0 rf0
    have rf1 := keeps_frozen hbp r1 rf1
    have r0 := keeps hbp r0
    have r1 := keeps hbp r1
    have HBp := hid (bel_step HB1.out hbp)
    rw [hwp]
    clear hwp hbp hb1 HR HBd c0 c1
    go_wp2
    refine bodyPost_ret (v := .tuple #[.agg #[.int .i64 0, .slice none 0 0], .int .i64 (bErr q ws)]) ?_ rfl ⟨⟨_, _, _, _, by rw [HE.out]⟩, ?_⟩
    · simp [results, Tryd.results11, go_sem, r0, r1]
    · exact set2_below HBp.out (by omega) _ _
end Go.Proofs.YtjcdddccnfiemaaDoor
