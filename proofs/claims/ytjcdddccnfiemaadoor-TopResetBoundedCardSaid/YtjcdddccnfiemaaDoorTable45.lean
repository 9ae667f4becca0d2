/-
  resync.Table: the table of a code, or why there is none.
  No condition beyond the words lying in a slice.
-/
import Derived.Test.YtjcdddccnfiemaaDoorTabW
namespace Go.Proofs.YtjcdddccnfiemaaDoor
open Go.RowKit Go.Deep
set_option linter.unusedVariables false

theorem Mt.congr {w : World} {v : Value} {n m : Nat} {f g : Nat → Nat → Int} (h : Mt w v n m f) (e : ∀ i < n, ∀ j < m, f i j = g i j) : Mt w v n m g := by
  obtain ⟨rs, h1, h2⟩ := h
  refine ⟨rs, h1, fun i hi => ?_⟩
  obtain ⟨r, hr, hs⟩ := h2 i hi
  refine ⟨r, hr, ?_⟩
  have e2 : rowV m (f i) = rowV m (g i) := by
    unfold rowV
    apply List.map_congr_left
    intro j hj
    rw [e i hi j (List.mem_range.1 hj)]
  rw [← e2]; exact hs
theorem rErr_zero {q : Int} {ws xs : List ByteArray} (h : rErr q ws xs = 0) : aErr q ws = 0 ∧ sizeW ws ≤ 64 ∧ wordsErr q xs = 0 := by
  unfold rErr at h
  split at h
  · rename_i h1; exact absurd h h1
  · rename_i h1
    split at h
    · simp at h
    · exact ⟨by simpa using h1, by omega, h⟩
/-- What a machine is good for. -/
structure Mach (q : Int) (ws : List ByteArray) : Prop where
  q2 : 2 ≤ q
  q16 : q ≤ 16
  pos : 0 < sizeW ws
  lt : ∀ s a, nxN ws s a < sizeW ws
  eq : ∀ s < sizeW ws, ∀ a < q.toNat, nxI ws s a = nxN ws s a
theorem mach_of {q : Int} {ws : List ByteArray} (h : aErr q ws = 0) : Mach q ws := by
  obtain ⟨hv, _, hf⟩ := aErr_zero h
  exact ⟨hv.q2, hv.q16, stW_pos hv, nxN_lt hv, fun s hs a ha => nxN_eq hf hs ha⟩
theorem PVal.nat {w : World} {vS vN vE : Value} {q : Int} {ws : List ByteArray} {st : List ByteArray} {em : Nat → Nat → Int} (hm : Mach q ws) (h : PVal w vS vN vE (sizeW ws) q.toNat st (nxI ws) em) : PVal w vS vN vE (sizeW ws) q.toNat st (fun i j => (nxN ws i j : Int)) em :=
  ⟨h.s, h.nx.congr hm.eq, h.em⟩

def TPost (q : Int) (ws : List ByteArray) (w : World) (e : Ending) (w' : World) : Prop :=
  (rErr q ws [] ≠ 0 ∧ e = .returned (.tuple #[.slice none 0 0, .int .i64 (rErr q ws [])]) ∧ Below w.heap.size w w') ∨
  (rErr q ws [] = 0 ∧ ∃ u T, e = .returned (.tuple #[u, .int .i64 0]) ∧ IsTab (sizeW ws) q.toNat (nxN ws) T ∧ Mt w' u (sizeW ws) (sizeW ws) T ∧ Below w.heap.size w w')

set_option maxRecDepth 100000 in
set_option maxHeartbeats 2000000 in
theorem rtable_any (q : Int) (v : Value) (ws : List ByteArray) (w : World) (hl : Sl 1 w v ws.length (strs ws)) :
    Calls Tryd.prog 7 #[.agg #[.int .i64 q, v]] w (TPost q ws w) := by
  have HL := hid hl
  have HBd := hid (fun X h => rbuild_any q v (.slice none 0 0) ws [] X h (Sl.nil 1 X))
  obtain ⟨ao, cap, rfl, _, hl1, hl2, hl3⟩ := hl
  clear hl3
  go_enter Tryd.func7, Tryd.ntmps7
  by_cases hE : rErr q ws [] = 0
  · obtain ⟨hA, h64, _⟩ := rErr_zero hE
    have hm := mach_of hA
    obtain ⟨Q, rfl⟩ : ∃ Q : Nat, q = Q := ⟨q.toNat, by have := hm.q2; omega⟩
    have HTab := hid (fun (vS vN vE : Value) (X : World) (h : PVal X vS vN vE (sizeW ws) ((Q : Int)).toNat (stW ws) (nxI ws) (emI ws)) => table_any vS vN vE (sizeW ws) Q (stW ws) (nxN ws) (emI ws) X (h.nat hm) hm.lt h64 hm.pos (by have := hm.q2; omega) (by have := hm.q16; omega))
    have HE := hid hE
    have hq16 := hm.q16
    go_upto_region 2 with (go_at_call 16; refine (HBd.out _ (HL.out.below (bel_alloc _ _))).mono ?_; rintro e w1 (⟨hne, _⟩ | ⟨_, vS, vN, vE, rfl, hres, hb1⟩); (exact absurd hE hne); have HB1 := hid (bel_step (bel_alloc _ _) hb1); obtain ⟨aS, cS, aN, cN, aE, cE, rfl, rfl, rfl⟩ := hres.slices)
    obtain ⟨wp, hwp⟩ : ∃ wp, w1.alloc (.cells #[.int .i64 (Q : Int), .slice aS (sizeW ws) cS, .slice aN (sizeW ws) cN, .slice aE (sizeW ws) cE] 27) = wp := ⟨_, rfl⟩
    obtain ⟨hbp, p0, p1, p2, p3⟩ := boxP hwp
    rw [hwp]
    have HBp := hid (bel_step HB1.out hbp)
    have HPv := hid ((hres.keep hbp).pval (by omega))
    clear hwp hbp hb1 hres HBd
    go_wp2_with (go_at_call 17; refine (HTab.out _ _ _ _ HPv.out).mono ?_; rintro e w2 ⟨u, T, rfl, hT, hM, hb2⟩)
    go_ret2
    exact .inr ⟨HE.out, u, T, rfl, hT, hM, bel_step HBp.out hb2⟩
  · have hE2 : (rErr q ws [] != 0) = true := by simp [hE]
    go_wp2_with (go_at_call 16; refine (HBd.out _ (HL.out.below (bel_alloc _ _))).mono ?_; rintro e w1 (⟨_, rfl, hb1⟩ | ⟨h0, _⟩); rotate_left; (exact absurd h0 hE); unfold nilP; have HB1 := hid (bel_step (bel_alloc _ _) hb1))
    go_ret2
    exact .inl ⟨hE, rfl, bel_step HB1.out (bel_alloc _ _)⟩
end Go.Proofs.YtjcdddccnfiemaaDoor
