/-
  parser.Build and parser.Automaton: the parser of a code, or why there is none.
  No condition beyond the words lying in a slice.
-/
import Derived.Test.YtjcdddccnfiemaaDoorPBuild
import Derived.Test.YtjcdddccnfiemaaDoorPrefixCk
import Derived.Test.YtjcdddccnfiemaaDoorMachRun
namespace Go.Proofs.YtjcdddccnfiemaaDoor
open Go.RowKit Go.Deep
set_option linter.unusedVariables false

/-- A parser among the results. -/
def nilP : Value := .agg #[.int .i64 0, .slice none 0 0, .slice none 0 0, .slice none 0 0]
/-- Why a code has no parser. -/
def bErr (q : Int) (ws : List ByteArray) : Int := if codeErr q ws ≠ 0 then 1 else if freeB ws = true then 0 else 8
theorem bErr_zero {q : Int} {ws : List ByteArray} : bErr q ws = 0 ↔ codeErr q ws = 0 ∧ freeB ws = true := by
  unfold bErr
  split
  · rename_i h; simp [h]
  · rename_i h
    have h' : codeErr q ws = 0 := by simpa using h
    split
    · rename_i h2; simp [h', h2]
    · rename_i h2; simp [h', h2]

/-- What parser.Build yields. -/
def BuildPost (q : Int) (ws : List ByteArray) (w : World) (e : Ending) (w' : World) : Prop :=
  (bErr q ws ≠ 0 ∧ e = .returned (.tuple #[nilP, .int .i64 (bErr q ws)]) ∧ Below w.heap.size w w') ∨
  (bErr q ws = 0 ∧ ∃ vS vN vE, e = .returned (.tuple #[.agg #[.int .i64 q, vS, vN, vE], .int .i64 0]) ∧ PRes w' w.heap.size vS vN vE (sizeW ws) q.toNat (stW ws) (nxI ws) (emI ws) ∧ Below w.heap.size w w')

theorem boxed2 {w w0 : World} {q : Int} {v : Value} (h : (w.alloc (.cells #[.int .i64 q, v] 24)).alloc (.cells #[.int .i64 0, .slice none 0 0, .slice none 0 0, .slice none 0 0] 27) = w0) :
    Below w.heap.size w w0 ∧ w0.cell? ⟨w.heap.size, 0, none⟩ = some (.int .i64 q) ∧ w0.cell? ⟨w.heap.size, 1, none⟩ = some v ∧ w0.rowIs (w.heap.size + 1) 27 4 (pfun 0 (.slice none 0 0) (.slice none 0 0) (.slice none 0 0)) := by
  refine ⟨by rw [← h]; exact (bel_alloc _ _).alloc (by simp) _, by rw [← h]; simp, by rw [← h]; simp, ?_⟩
  rw [← h, show w.heap.size + 1 = (w.alloc (.cells #[.int .i64 q, v] 24)).heap.size by simp]
  refine World.rowIs_alloc _ _ _ _ ?_
  intro i hi
  have hi' : i < 4 := hi
  have : i = 0 ∨ i = 1 ∨ i = 2 ∨ i = 3 := by omega
  rcases this with rfl | rfl | rfl | rfl <;> rfl
theorem zero4 {X : World} {g : Nat} (hr : X.rowIs g 27 4 (pfun 0 (.slice none 0 0) (.slice none 0 0) (.slice none 0 0))) :
    (X.cell? ⟨g, 0, none⟩ = some (.int .i64 0) ∧ X.cell? ⟨g, 1, none⟩ = some (.slice none 0 0) ∧ X.cell? ⟨g, 2, none⟩ = some (.slice none 0 0) ∧ X.cell? ⟨g, 3, none⟩ = some (.slice none 0 0)) ∧ (X.frozen? ⟨g, 0, none⟩ = false ∧ X.frozen? ⟨g, 1, none⟩ = false ∧ X.frozen? ⟨g, 2, none⟩ = false ∧ X.frozen? ⟨g, 3, none⟩ = false) :=
  ⟨⟨hr.cell (i := 0) (by omega), hr.cell (i := 1) (by omega), hr.cell (i := 2) (by omega), hr.cell (i := 3) (by omega)⟩, hr.frozen 0, hr.frozen 1, hr.frozen 2, hr.frozen 3⟩
/-- Behind four stores into a block that was laid later than w. -/
theorem set4_below {w X : World} (h : Below w.heap.size w X) {g : Nat} (hg : w.heap.size ≤ g) (a b c d : Value) : Below w.heap.size w ((((X.setCell ⟨g, 0, none⟩ a).setCell ⟨g, 1, none⟩ b).setCell ⟨g, 2, none⟩ c).setCell ⟨g, 3, none⟩ d) :=
  (((h.setCell (p := ⟨g, 0, none⟩) hg _).setCell (p := ⟨g, 1, none⟩) hg _).setCell (p := ⟨g, 2, none⟩) hg _).setCell (p := ⟨g, 3, none⟩) hg _

set_option maxRecDepth 100000 in
set_option maxHeartbeats 2000000 in
theorem build_any (q : Int) (v : Value) (ws : List ByteArray) (w : World) (hl : Sl 1 w v ws.length (strs ws)) :
    Calls Tryd.prog 12 #[.agg #[.int .i64 q, v]] w (BuildPost q ws w) := by
  have HL := hid hl
  have HCk := hid (fun X h => ccheck_any q v ws X h)
  have HPf := hid (fun X h => pprefix_any q v ws X h)
  obtain ⟨ao, cap, rfl, _, hl1, hl2, hl3⟩ := hl
  clear hl3
  by_cases hE : codeErr q ws = 0
  · have hE2 : (codeErr q ws != 0) = false := by simp [hE]
    have hv := codeErr_zero hE
    have hq := hv.q2
    cases hf : freeB ws
    · have hb : bErr q ws = 8 := by unfold bErr; rw [if_neg (by simp [hE]), if_neg (by simp [hf])]
      have hg : goodB q ws = false := by simp [goodB, hf]
      rw [hg] at HPf
      have HB := hid hb
      clear hv hb hf hg
      generalize codeErr q ws = E at *
      go_enter Tryd.func12, Tryd.ntmps12
      go_upto_region 1 with fail
      obtain ⟨w0, hw0⟩ : ∃ w0, (w.alloc (.cells #[.int .i64 q, .slice ao ws.length cap] 24)).alloc (.cells #[.int .i64 0, .slice none 0 0, .slice none 0 0, .slice none 0 0] 27) = w0 := ⟨_, rfl⟩
      obtain ⟨hb0, c0, c1, hr⟩ := boxed2 hw0
      rw [hw0]
      have HB0 := hid hb0
      clear hw0 hb0
      go_upto_region 4 with (first
        | (go_at_call 31; refine (HCk.out _ (HL.out.below HB0.out)).mono ?_; rintro e w1 ⟨rfl, hb1⟩; have HB1 := hid (bel_step HB0.out hb1); have c0 := keeps hb1 c0; have c1 := keeps hb1 c1; have hr := row_below hr hb1)
        | (go_at_call 32; refine (HPf.out _ (HL.out.below HB1.out)).mono ?_; rintro e w2 ⟨rfl, hb2⟩; have HB2 := hid (bel_step HB1.out hb2); have hr := row_below hr hb2; obtain ⟨⟨q0, q1, q2, q3⟩, f0, f1, f2, f3⟩ := zero4 hr))
      go_wp2
      refine bodyPost_ret (v := .tuple #[nilP, .int .i64 8]) ?_ rfl (.inl ⟨by rw [HB.out]; decide, by rw [HB.out], ?_⟩)
      · simp [results, Tryd.results12, go_sem, nilP, q0, q1, q2, q3]
      · exact set4_below HB2.out (by omega) _ _ _ _
    · have hb : bErr q ws = 0 := bErr_zero.2 ⟨hE, hf⟩
      have hg : goodB q ws = true := by simp [goodB, hf, hE]
      rw [hg] at HPf
      obtain ⟨Q, rfl⟩ : ∃ Q : Nat, q = Q := ⟨q.toNat, by omega⟩
      have HBu := hid (fun X h => pbuild_any Q (.slice ao ws.length cap) ws X h hv)
      have HB := hid hb
      clear hv hb hf hg
      generalize codeErr Q ws = E at *
      go_enter Tryd.func12, Tryd.ntmps12
      go_upto_region 1 with fail
      obtain ⟨w0, hw0⟩ : ∃ w0, (w.alloc (.cells #[.int .i64 (Q : Int), .slice ao ws.length cap] 24)).alloc (.cells #[.int .i64 0, .slice none 0 0, .slice none 0 0, .slice none 0 0] 27) = w0 := ⟨_, rfl⟩
      obtain ⟨hb0, c0, c1, hr⟩ := boxed2 hw0
      rw [hw0]
      have HB0 := hid hb0
      clear hw0 hb0
      go_upto_region 5 with (first
        | (go_at_call 31; refine (HCk.out _ (HL.out.below HB0.out)).mono ?_; rintro e w1 ⟨rfl, hb1⟩; have HB1 := hid (bel_step HB0.out hb1); have c0 := keeps hb1 c0; have c1 := keeps hb1 c1; have hr := row_below hr hb1)
        | (go_at_call 32; refine (HPf.out _ (HL.out.below HB1.out)).mono ?_; rintro e w2 ⟨rfl, hb2⟩; have HB2 := hid (bel_step HB1.out hb2); have c0 := keeps hb2 c0; have c1 := keeps hb2 c1; have hr := row_below hr hb2))
      go_wp2_with (go_at_call 33; refine (HBu.out _ (HL.out.below HB2.out)).mono ?_; rintro e w3 ⟨vS, vN, vE, rfl, hres, hb3⟩; have HB3 := hid (bel_step HB2.out hb3); have hr2 := hr.lt; have hr := row_below hr hb3; obtain ⟨aS, cS, aN, cN, aE, cE, rfl, rfl, rfl⟩ := hres.slices; have HRes := hid hres; clear hres; obtain ⟨⟨q0, q1, q2, q3⟩, f0, f1, f2, f3⟩ := zero4 hr)
      refine bodyPost_ret (v := .tuple #[.agg #[.int .i64 (Q : Int), .slice aS (sizeW ws) cS, .slice aN (sizeW ws) cN, .slice aE (sizeW ws) cE], .int .i64 0]) ?_ rfl (.inr ⟨HB.out, _, _, _, rfl, ?_, ?_⟩)
      · simp [results, Tryd.results12, go_sem, q0, q1, q2, q3]
      · exact ((((HRes.out.set (a := ⟨w.heap.size + 1, 0, none⟩) hr2 _).set (a := ⟨w.heap.size + 1, 1, none⟩) hr2 _).set (a := ⟨w.heap.size + 1, 2, none⟩) hr2 _).set (a := ⟨w.heap.size + 1, 3, none⟩) hr2 _).base (by omega)
      · exact set4_below HB3.out (by omega) _ _ _ _
  · have hE2 : (codeErr q ws != 0) = true := by simp [hE]
    have hb : bErr q ws = 1 := by unfold bErr; rw [if_pos (by simpa using hE)]
    have HB := hid hb
    clear hb
    generalize codeErr q ws = E at *
    go_enter Tryd.func12, Tryd.ntmps12
    go_upto_region 1 with fail
    obtain ⟨w0, hw0⟩ : ∃ w0, (w.alloc (.cells #[.int .i64 q, .slice ao ws.length cap] 24)).alloc (.cells #[.int .i64 0, .slice none 0 0, .slice none 0 0, .slice none 0 0] 27) = w0 := ⟨_, rfl⟩
    obtain ⟨hb0, c0, c1, hr⟩ := boxed2 hw0
    rw [hw0]
    have HB0 := hid hb0
    clear hw0 hb0
    go_wp2_with (go_at_call 31; refine (HCk.out _ (HL.out.below HB0.out)).mono ?_; rintro e w1 ⟨rfl, hb1⟩; have HB1 := hid (bel_step HB0.out hb1); have hr := row_below hr hb1; obtain ⟨⟨q0, q1, q2, q3⟩, f0, f1, f2, f3⟩ := zero4 hr)
    refine bodyPost_ret (v := .tuple #[nilP, .int .i64 1]) ?_ rfl (.inl ⟨by rw [HB.out]; decide, by rw [HB.out], ?_⟩)
    · simp [results, Tryd.results12, go_sem, nilP, q0, q1, q2, q3]
    · exact set4_below HB1.out (by omega) _ _ _ _
end Go.Proofs.YtjcdddccnfiemaaDoor
