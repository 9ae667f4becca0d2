/-
  The walk of StripNeighbours: it returns true, and writes nothing that was there.
  No condition beyond what the arguments' types say.
-/
import Derived.Test.YtppflnkadjddiaaNeighLaw
import Derived.Test.YtppflnkadjddiaaRoundTrip
namespace Go.Proofs.Ytppflnkadjddiaa
open Go.RowKit
set_option linter.unusedVariables false

theorem validR (h : Int) (C b : List Int) (v1 v2 : Value) (w : World) (h1 : 1 ≤ h) (h4 : h ≤ 4) (hn : C.length ≤ 65536) (ha : C.all (okCol h) = true) (hb : chk h b = 0) (hl : Sl 1 w v1 b.length (ints b)) (hr : Sl 1 w v2 (rowsGo h C h.toNat).length (strs (rowsGo h C h.toNat))) :
    Calls Try.prog 20 #[v1, v2] w fun e w' => e = .returned (.tuple #[.bool (adj (okP h b) C), .int .i64 0]) ∧ Below w.heap.size w w' := by
  have := valid_any v1 v2 b (rowsGo h C h.toNat) w hl hr (by rw [rowsGo_len]; omega)
  unfold ValidPost at this
  rwa [(valid_rows h1 h4 hn ha hb).1, (valid_rows h1 h4 hn ha hb).2] at this

set_option maxRecDepth 100000 in
set_option maxHeartbeats 4000000 in
theorem stripNeighbours_any (a s : Int) (v : Value) (l : List Int) (w : World) (ha0 : 0 ≤ a) (ha1 : a ≤ 255) (s0 : 0 ≤ s) (s1 : s ≤ 65535) (hl : Sl 1 w v l.length (l.map (.int .u8))) (hb : ∀ x ∈ l, 0 ≤ x ∧ x ≤ 255) :
    Calls Try.prog 5 #[.int .u8 a, .int .u16 s, v] w fun e w' => e = .returned (.bool true) ∧ Below w.heap.size w w' := by
  have HS := hid hl
  obtain ⟨ao, cap, rfl, _, hc1, hm1, hs⟩ := hl
  clear hs
  have HB := hid hb
  clear hb
  by_cases h24 : l.length ≤ 12
  · obtain ⟨h, hh⟩ : ∃ h, a % 4 + 1 = h := ⟨_, rfl⟩
    have h1 : 1 ≤ h := by omega
    have h4 : h ≤ 4 := by omega
    have HC := hid (okCol_colsOf h l h1 h4)
    have HL := hid (colsOf_len h l)
    have HK := hid (chk_blkOf h s h1 h4)
    go_enter Try.func5, Try.ntmps5
    go_upto_region 5 with (first
      | (go_at_call 24; refine (lawBlocks_any _ _ _ ?_ ?_).mono ?_; (omega); (omega); rintro e w1 ⟨vb, rfl, hob, hb1⟩; have hSb := Sl.of_owns hob; clear hob)
      | (go_at_call 11; refine (numbers_any _ _ l _ ?_ ?_ (HS.out.below hb1) HB.out ?_).mono ?_; (omega); (omega); (omega); rintro e w2 ⟨v1, rfl, ho1, hb2⟩; have hS1 := Sl.of_owns ho1; clear ho1; obtain ⟨ao1, cap1, rfl, hq1⟩ := id hS1; clear hq1))
    have hSb := hSb.below hb2
    have hbel := bel_step hb1 hb2
    have HLL := hid (show l.length = (colsOf h l).length from HL.out.symm)
    rw [HLL.out] at hS1 h24 ⊢
    generalize blkOf h s = B at *
    generalize colsOf h l = C at *
    clear hb1 hb2
    have hcl : C.length ≤ 65536 := by omega
    go_upto_region 6 with (go_at_call 12; refine (rowsR h C _ _ h1 h4 hcl HC.out ?_).mono ?_; (exact hS1); rintro e w3 ⟨v3, rfl, hS3, hb3⟩)
    have hSb := hSb.below hb3
    have hS1 := hS1.below hb3
    have hbel := bel_step hbel hb3
    clear hb3
    go_upto_region 9 with (go_at_call 20; refine (validR h C B _ _ _ h1 h4 hcl HC.out HK.out ?_ ?_).mono ?_; (exact hSb); (exact hS3); rintro e w4 ⟨rfl, hb4⟩)
    have hSb := hSb.below hb4
    have hS1 := hS1.below hb4
    have hbel := bel_step hbel hb4
    clear hb4 hS3
    have HSb := hid hSb
    have HS1 := hid hS1
    have HBel := hid hbel
    clear hSb hS1 hbel
    go_loopw [14, 15] (fun u i wr => ∃ k : Nat, 1 ≤ k ∧ (k ≤ C.length ∨ k = 1) ∧ i = .int .i64 k ∧ u = .bool (adj (okP h B) (C.take k)) ∧ Below w.heap.size w wr ∧ Sl 1 wr vb B.length (ints B) ∧ Sl 1 wr (.slice ao1 C.length cap1) C.length (ints C)) (fun _ i _ => C.length - (intOf i).toNat)
    case atStart => exact ⟨1, Nat.le_refl _, .inr rfl, rfl, by rw [adj_one], HBel.out, HSb.out, HS1.out⟩
    case round =>
      obtain ⟨k, hk1, hk2, rfl, rfl, hbel, hSb, hS1⟩ := hrel
      have HSb := hid hSb
      have HS1 := hid hS1
      have HBel := hid hbel
      clear hSb hS1 hbel
      by_cases hlt : k < C.length
      · obtain ⟨x, hx⟩ := some_of_lt hlt
        obtain ⟨y, hy⟩ := some_of_lt (l := C) (k := k - 1) (by omega)
        obtain ⟨b, o, rfl, c1⟩ := HS1.out.cell (ints_get hx)
        have hsub := HS1.out.sub (k - 1) (k + 1) (by omega) (by omega)
        have e2 : k + 1 - (k - 1) = 2 := by omega
        rw [e2, two_of hk1 hy hx] at hsub
        have HSub := hid hsub
        have hcap : k + 1 ≤ cap1 := by obtain ⟨_, _, hv, _, hcc, _, _⟩ := HS1.out; simp only [Value.slice.injEq] at hv; omega
        have hcm : cap1 ≤ 9223372036854775807 := by obtain ⟨_, _, hv, _, _, hcc, _⟩ := HS1.out; simp only [Value.slice.injEq] at hv; omega
        have hne : ¬ cap1 = k - 1 := by omega
        have he2 : k + 1 - (k - 1) = 2 := by omega
        have HAT := hid (adj_take_succ (okP h B) hk1 hy hx)
        have HA2 := hid (all_two HC.out hy hx)
        clear hx hy hsub e2
        go_upto_region 12 with (go_at_call 12; refine (rowsR h [y, x] _ _ h1 h4 (by simp) HA2.out ?_).mono ?_; (exact HSub.out); rintro e w5 ⟨v5, rfl, hS5, hb5⟩)
        have HSb5 := hid (HSb.out.below hb5)
        have HS15 := hid (HS1.out.below hb5)
        have HBel5 := hid (bel_step HBel.out hb5)
        clear hb5
        go_upto_region 13 with (go_at_call 20; refine (validR h [y, x] B _ _ _ h1 h4 (by simp) HA2.out HK.out ?_ ?_).mono ?_; (exact HSb5.out); (exact hS5); rintro e w6 ⟨rfl, hb6⟩; rw [adj_two])
        have HSb6 := hid (HSb5.out.below hb6)
        have HS16 := hid (HS15.out.below hb6)
        have HBel6 := hid (bel_step HBel5.out hb6)
        clear hb6 hS5
        generalize okP h B y x = q at *
        generalize adj (okP h B) (C.take k) = p at *
        clear HSub HA2
        cases p
        all_goals
          go_wp2
          go_roundw
          case rel => exact ⟨k + 1, by omega, by omega, by go_num, by rw [HAT.out]; rfl, HBel6.out, HSb6.out, HS16.out⟩
          case measure => simp [intOf]; omega
      · have HT := hid (show adj (okP h B) (C.take k) = adj (okP h B) C by rw [take_all (by omega)])
        rw [HT.out]
        go_wp2_with (go_at_call 10; refine (awake_any _).mono ?_; rintro e w9 ⟨rfl, hb9⟩)
        go_ret
        exact ⟨rfl, bel_step HBel.out hb9⟩
  · go_enter Try.func5, Try.ntmps5
    go_wp2_with (go_at_call 10; refine (awake_any _).mono ?_; rintro e w1 ⟨rfl, hb⟩)
    go_ret
    exact ⟨rfl, hb⟩
end Go.Proofs.Ytppflnkadjddiaa
