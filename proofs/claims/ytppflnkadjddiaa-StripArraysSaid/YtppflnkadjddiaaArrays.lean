/-
  The walk of StripArrays: it returns true, and writes nothing that was there.
  No condition beyond what the arguments' types say.
-/
import Derived.Test.YtppflnkadjddiaaRefCount
import Derived.Test.YtppflnkadjddiaaCounts
namespace Go.Proofs.Ytppflnkadjddiaa
open Go.RowKit
set_option linter.unusedVariables false

theorem refCount_any (h n : Int) (v : Value) (l : List Int) (w : World) (hl : Sl 1 w v l.length (ints l)) (hn : n ≤ 16 ∨ 4096 < n) :
    Calls Try.prog 23 #[.int .i64 h, .int .i64 n, v] w (CountPost h n l w) := by
  by_cases hE : cntE h n l = 0
  · have hc : chk h l = 0 := by
      rw [cntE] at hE
      split at hE
      · rename_i h1; exact absurd hE h1
      · rename_i h1; simpa using h1
    have hn' : ¬ (n < 0 ∨ 4096 < n) := by
      intro h1
      rw [cntE, if_neg (by simp [hc]), if_pos h1] at hE
      cases hE
    exact refCount_good h n v l w hl hc (by omega) (by omega)
  · exact refCount_bad h n v l w hl hE

structure Ar (w : World) (C : List Int) (va vb : Value) (g1 g2 cn : Nat) (X : World) : Prop where
  bel : Below w.heap.size w X
  sa : Sl 1 X va C.length (ints C)
  sb : Sl 1 X vb C.length (ints C)
  m1 : Num X g1 cn
  m2 : Num X g2 cn
theorem Ar.keep {w X Y : World} {C : List Int} {va vb : Value} {g1 g2 cn : Nat} (h : Ar w C va vb g1 g2 cn X) (hb : Below X.heap.size X Y) : Ar w C va vb g1 g2 cn Y :=
  ⟨bel_step h.bel hb, h.sa.below hb, h.sb.below hb, h.m1.keep hb, h.m2.keep hb⟩

set_option maxRecDepth 100000 in
set_option maxHeartbeats 4000000 in
theorem stripArrays_any (h n : Int) (v1 : Value) (l : List Int) (v2 : Value) (rows : List ByteArray) (w : World) (h0 : IntKind.i64.min ≤ h) (h1 : h ≤ IntKind.i64.max) (n0 : IntKind.i64.min ≤ n) (n1 : n ≤ IntKind.i64.max)
    (hl : Sl 1 w v1 l.length (ints l)) (hb : ∀ x ∈ l, IntKind.i64.min ≤ x ∧ x ≤ IntKind.i64.max) (hr : Sl 1 w v2 rows.length (strs rows)) (hrs : ∀ s ∈ rows, s.size ≤ maxLen) :
    Calls Try.prog 4 #[.int .i64 h, .int .i64 n, v1, v2] w fun e w' => e = .returned (.bool true) ∧ Below w.heap.size w w' := by
  obtain ⟨ao1, cap1, rfl, _, hcap1, hm1, _⟩ := id hl
  obtain ⟨ao2, cap2, rfl, _, hcap2, hm2, _⟩ := id hr
  have HL := hid hl
  have HR := hid hr
  have HG := hid (refGreat_any _ rows w hr)
  clear hl hr hb h0 h1 n0 n1 hrs
  by_cases h20 : 20 < l.length
  · go_enter Try.func4, Try.ntmps4
    go_wp2_with (go_at_call 10; refine (awake_any _).mono ?_; rintro e w1 ⟨rfl, hb⟩)
    go_ret
    exact ⟨rfl, hb⟩
  · cases hg : greatB rows
    · by_cases hn : 16 < n ∧ n ≤ 4096
      · obtain ⟨hn1, hn2⟩ := hn
        rw [hg] at HG
        clear hg
        go_enter Try.func4, Try.ntmps4
        go_wp2_with (first
          | (go_at_call 18; refine HG.out.mono ?_; rintro e w1 ⟨rfl, rfl⟩)
          | (go_at_call 10; refine (awake_any _).mono ?_; rintro e w1 ⟨rfl, hb⟩))
        go_ret
        exact ⟨rfl, hb⟩
      · have hr6 : rows.length ≤ 6 := by
          simp only [greatB, Bool.or_eq_false_iff, decide_eq_false_iff_not] at hg
          omega
        have hnn : n ≤ 16 ∨ 4096 < n := by omega
        rw [hg] at HG
        have HNN := hid hnn
        clear hg hn hnn
        have hr1 : rows.length ≤ 1000 := by omega
        by_cases h16 : n ≤ 16
        all_goals
          first | (have h17 : 4096 < n := by have := HNN.out; omega) | skip
          go_enter Try.func4, Try.ntmps4
          go_upto_region 4 with (first
            | (go_at_call 18; refine HG.out.mono ?_; rintro e w1 ⟨rfl, rfl⟩)
            | (go_at_call 13; refine (columns_any _ rows _ HR.out hr1).mono ?_; rintro e w1 ⟨va, rfl, ho1, hb1⟩; have hA1 := Sl.of_owns ho1; clear ho1))
          have HL1 := hid (HL.out.below hb1)
          have HR1 := hid (HR.out.below hb1)
          go_upto_region 5 with (go_at_call 19; refine (refColumns_any _ rows _ HR1.out hr1).mono ?_; rintro e w2 ⟨vb, rfl, ho2, hb2⟩; have hA2 := Sl.of_owns ho2; clear ho2)
          have HA := hid (hA1.below hb2)
          have HB := hid hA2
          have HL2 := hid (HL1.out.below hb2)
          have HR2 := hid (HR1.out.below hb2)
          have HBel := hid (bel_step hb1 hb2)
          clear hA1 hA2 hb1 hb2 HL1 HR1
          generalize colsErr rows = K at *
          generalize colsL rows = C at *
          go_upto_region 6 with (go_at_call 20; refine (valid_any _ _ l rows _ HL2.out HR2.out hr1).mono ?_; rintro e w3 ⟨rfl, hb3⟩)
          have HL3 := hid (HL2.out.below hb3)
          have HR3 := hid (HR2.out.below hb3)
          have HA3 := hid (HA.out.below hb3)
          have HB3 := hid (HB.out.below hb3)
          have HBel3 := hid (bel_step HBel.out hb3)
          clear hb3 HL2 HR2 HA HB HBel
          go_upto_region 7 with (go_at_call 21; refine (refValid_any _ _ l rows _ HL3.out HR3.out hr1).mono ?_; rintro e w4 ⟨rfl, hb4⟩)
          have HL4 := hid (HL3.out.below hb4)
          have HA4 := hid (HA3.out.below hb4)
          have HB4 := hid (HB3.out.below hb4)
          have HBel4 := hid (bel_step HBel3.out hb4)
          clear hb4 HL3 HR3 HA3 HB3 HBel3
          generalize validB l rows = vq at *
          generalize validE l rows = ve at *
          go_upto_region 8 with (go_at_call 22; refine (count_any _ _ _ l _ HL4.out).mono ?_; rintro e w5 ⟨rfl, hb5⟩)
          generalize hcn : cntN h n l = cn at *
          have HCN := hid hcn
          clear hcn
          have hB2 : Below w5.heap.size w5 (w5.alloc (.cells #[.bool false, .string (nmg cn)] 41)) := (Below.refl _ _).alloc (Nat.le_refl _) _
          have hBB := bel_step hb5 hB2
          have hn1 := num_new w5 cn
          have HL5 := hid (HL4.out.below hBB)
          have HA5 := hid (HA4.out.below hBB)
          have HB5 := hid (HB4.out.below hBB)
          have HBel5 := hid (bel_step HBel4.out hBB)
          clear hb5 hB2 hBB HL4 HA4 HB4 HBel4
          generalize w5.alloc (.cells #[.bool false, .string (nmg cn)] 41) = w6 at *
          generalize w5.heap.size = g1 at *
          go_upto_region 9 with (go_at_call 23; refine (refCount_any _ _ _ l _ HL5.out HNN.out).mono ?_; rintro e w7 ⟨rfl, hb7⟩; rw [HCN.out])
          generalize cntE h n l = ce at *
          have hB2 : Below w7.heap.size w7 (w7.alloc (.cells #[.bool false, .string (nmg cn)] 41)) := (Below.refl _ _).alloc (Nat.le_refl _) _
          have hBB := bel_step hb7 hB2
          have hn2 := num_new w7 cn
          have hn1 := hn1.keep hBB
          have HA7 := hid (HA5.out.below hBB)
          have HB7 := hid (HB5.out.below hBB)
          have HBel7 := hid (bel_step HBel5.out hBB)
          clear hb7 hB2 hBB HA5 HB5 HBel5 HL5
          generalize w7.alloc (.cells #[.bool false, .string (nmg cn)] 41) = w8 at *
          generalize w7.heap.size = g2 at *
          have hF : Ar w C va vb g1 g2 cn w8 := ⟨HBel7.out, HA7.out, HB7.out, hn1, hn2⟩
          obtain ⟨x1, x2⟩ := hn1
          obtain ⟨y1, y2⟩ := hn2
          clear HA7 HB7 HBel7
          cases vq
          all_goals
            go_wp2_with (first
              | (go_at_call 14; refine (equalI C _ _ _ hF.sa hF.sb).mono ?_; rintro e w9 ⟨rfl, hb9⟩; have hF := hF.keep hb9; obtain ⟨x1, x2⟩ := hF.m1; obtain ⟨y1, y2⟩ := hF.m2)
              | (go_at_call 10; refine (awake_any _).mono ?_; rintro e w10 ⟨rfl, hb10⟩))
            go_ret
            exact ⟨rfl, bel_step hF.bel hb10⟩
    · rw [hg] at HG
      clear hg
      go_enter Try.func4, Try.ntmps4
      go_wp2_with (first
        | (go_at_call 18; refine HG.out.mono ?_; rintro e w1 ⟨rfl, rfl⟩)
        | (go_at_call 10; refine (awake_any _).mono ?_; rintro e w1 ⟨rfl, hb⟩))
      go_ret
      exact ⟨rfl, hb⟩
end Go.Proofs.Ytppflnkadjddiaa
