/-
  groovelaw45.ResyncTables: Greatest, Table and Synchronizing return the results of the reference.
  No condition beyond the words lying in a slice.
-/
import Derived.Test.YtalklhjmnoodeaaLawGreat
import Derived.Test.YtalklhjmnoodeaaRefSync
import Derived.Test.YtalklhjmnoodeaaRefLists
namespace Go.Proofs.Ytalklhjmnoodeaa
open Go.RowKit Go.Deep
set_option linter.unusedVariables false

theorem syncpost_one {q : Int} {ws : List ByteArray} {w w' : World} {e : Ending} (h : SPost q ws w e w') : e = .returned (.tuple #[.string (if sErr q ws = 0 then syncS (syncN (nxN ws) (sizeW ws) q.toNat) else ⟨#[]⟩), .bool (if sErr q ws = 0 then syncB (syncN (nxN ws) (sizeW ws) q.toNat) else false), .int .i64 (sErr q ws)]) ∧ Below w.heap.size w w' := by
  obtain ⟨hb, ⟨h1, h2⟩ | ⟨h1, h2⟩⟩ := h
  · exact ⟨by rw [h2, if_neg h1, if_neg h1], hb⟩
  · exact ⟨by rw [h2, if_pos h1, if_pos h1, h1], hb⟩

set_option maxRecDepth 100000 in
set_option maxHeartbeats 4000000 in
theorem resyncTables_any (q : Int) (v : Value) (ws : List ByteArray) (w : World) (hl : Sl 1 w v ws.length (strs ws)) :
    Calls Try.prog 6 #[.agg #[.int .i64 q, v]] w fun e w' => e = .returned (.bool true) ∧ Below w.heap.size w w' := by
  have HL := hid hl
  have HGr := hid (fun X h h2 => lgreat_any q v (.slice none 0 0) ws [] X h h2)
  have HG1 := hid (fun X h => greatest_any q v ws X h)
  have HG2 := hid (fun X h => refgreatest_any q v ws X h)
  have HT1 := hid (fun X h => rtable_any q v ws X h)
  have HT2 := hid (fun X h => reftable_any q v ws X h)
  have HS1 := hid (fun X h => (sync_any q v ws X h).mono fun e w' h => syncpost_one h)
  have HS2 := hid (fun X h => (refsync_any q v ws X h).mono fun e w' h => syncpost_one h)
  have HAw := hid awake_any
  obtain ⟨ao, cap, rfl, _, hl1, hl2, hl3⟩ := hl
  clear hl3
  go_enter Try.func6, Try.ntmps6
  go_upto_region 1 with fail
  obtain ⟨w0, hw0⟩ : ∃ w0, w.alloc (.cells #[.int .i64 q, .slice ao ws.length cap] 24) = w0 := ⟨_, rfl⟩
  obtain ⟨hb0, c0, c1⟩ := boxed hw0
  rw [hw0]
  have HB0 := hid hb0
  clear hw0 hb0
  generalize (greatB ws || ([] : List ByteArray).any longB) = G at *
  cases G
  · go_upto_region 3 with (go_at_call 11; refine (HGr.out _ (HL.out.below HB0.out) (Sl.nil 1 _)).mono ?_; rintro e w1 ⟨rfl, hb1⟩; have HB1 := hid (bel_step HB0.out hb1); have c0 := keeps hb1 c0; have c1 := keeps hb1 c1)
    by_cases hE : rErr q ws [] = 0
    · have HCl := hid (show Closed (sizeW ws) q.toNat (nxN ws) from fun a _ b _ => (mach_of (rErr_zero hE).1).lt a b)
      have h64 := (rErr_zero hE).2.1
      go_upto_region 9 with (first
        | (go_at_call 22; refine (HG1.out _ (HL.out.below HB1.out)).mono ?_; rintro e w2 (⟨h0, _⟩ | ⟨_, ⟨T1, hT1, rfl⟩, hb2⟩); (exact absurd hE h0); have HB2 := hid (bel_step HB1.out hb2); have c0 := keeps hb2 c0; have c1 := keeps hb2 c1)
        | (go_at_call 23; refine (HG2.out _ (HL.out.below HB2.out)).mono ?_; rintro e w3 (⟨h0, _⟩ | ⟨_, ⟨T2, hT2, rfl⟩, hb3⟩); (exact absurd hE h0); have HB3 := hid (bel_step HB2.out hb3); have c0 := keeps hb3 c0; have c1 := keeps hb3 c1; rw [great_unique HCl.out hT2 hT1])
        | (go_at_call 20; refine (HT1.out _ (HL.out.below HB3.out)).mono ?_; rintro e w4 (⟨h0, _⟩ | ⟨_, u4, T4, rfl, hT4, hM4, hb4⟩); (exact absurd hE h0); have HB4 := hid (bel_step HB3.out hb4); have c0 := keeps hb4 c0; have c1 := keeps hb4 c1)
        | (go_at_call 24; refine (HT2.out _ (HL.out.below HB4.out)).mono ?_; rintro e w5 (⟨h0, _⟩ | ⟨_, u5, T5, rfl, hT5, hM5, hb5⟩); (exact absurd hE h0); have HB5 := hid (bel_step HB4.out hb5); have c0 := keeps hb5 c0; have c1 := keeps hb5 c1)
        | (go_at_call 25; refine (HS1.out _ (HL.out.below HB5.out)).mono ?_; rintro e w6 ⟨rfl, hb6⟩; have HB6 := hid (bel_step HB5.out hb6); have c0 := keeps hb6 c0; have c1 := keeps hb6 c1)
        | (go_at_call 26; refine (HS2.out _ (HL.out.below HB6.out)).mono ?_; rintro e w7 ⟨rfl, hb7⟩; have HB7 := hid (bel_step HB6.out hb7); have c0 := keeps hb7 c0; have c1 := keeps hb7 c1))
      have HLs := hid (fun X h1 h2 => rlists_any u4 u5 (sizeW ws) (sizeW ws) T4 X h1 h2 (by omega) (by omega))
      have HM4 := hid (hM4.below (bel_step hb5 (bel_step hb6 hb7)))
      have HM5 := hid ((hM5.below (bel_step hb6 hb7)).congr fun i hi k hk => tab_unique HCl.out hT5 hT4 i hi k hk)
      clear hM4 hM5
      generalize gI (greatN (sizeW ws) q.toNat (nxN ws) T1) = a1 at *
      generalize gB (greatN (sizeW ws) q.toNat (nxN ws) T1) = a2 at *
      generalize syncB (syncN (nxN ws) (sizeW ws) q.toNat) = a4 at *
      generalize syncS (syncN (nxN ws) (sizeW ws) q.toNat) = a5 at *
      generalize sErr q ws = a6 at *
      generalize (if a6 = 0 then a5 else ⟨#[]⟩) = a7 at *
      generalize (decide (a6 = 0) && a4) = a8 at *
      go_wp2_with (first
        | (go_at_call 27; refine (HLs.out _ HM4.out HM5.out).mono ?_; rintro e w8 ⟨rfl, hD⟩; have HB8 := hid (bel_step HB7.out (hD.below _)))
        | (go_at_call 12; refine (HAw.out _).mono ?_; rintro e w9 ⟨rfl, hb9⟩))
      go_ret
      exact ⟨rfl, bel_step HB8.out hb9⟩
    · have HLs := hid (fun X => rlists_any (.slice none 0 0) (.slice none 0 0) 0 0 (fun _ _ => 0) X (Mt.nil0 X _) (Mt.nil0 X _) (by omega) (by omega))
      go_upto_region 9 with (first
        | (go_at_call 22; refine (HG1.out _ (HL.out.below HB1.out)).mono ?_; rintro e w2 (⟨_, rfl, hb2⟩ | ⟨h0, _⟩); rotate_left; (exact absurd h0 hE); have HB2 := hid (bel_step HB1.out hb2); have c0 := keeps hb2 c0; have c1 := keeps hb2 c1)
        | (go_at_call 23; refine (HG2.out _ (HL.out.below HB2.out)).mono ?_; rintro e w3 (⟨_, rfl, hb3⟩ | ⟨h0, _⟩); rotate_left; (exact absurd h0 hE); have HB3 := hid (bel_step HB2.out hb3); have c0 := keeps hb3 c0; have c1 := keeps hb3 c1)
        | (go_at_call 20; refine (HT1.out _ (HL.out.below HB3.out)).mono ?_; rintro e w4 (⟨_, rfl, hb4⟩ | ⟨h0, _⟩); rotate_left; (exact absurd h0 hE); have HB4 := hid (bel_step HB3.out hb4); have c0 := keeps hb4 c0; have c1 := keeps hb4 c1)
        | (go_at_call 24; refine (HT2.out _ (HL.out.below HB4.out)).mono ?_; rintro e w5 (⟨_, rfl, hb5⟩ | ⟨h0, _⟩); rotate_left; (exact absurd h0 hE); have HB5 := hid (bel_step HB4.out hb5); have c0 := keeps hb5 c0; have c1 := keeps hb5 c1)
        | (go_at_call 25; refine (HS1.out _ (HL.out.below HB5.out)).mono ?_; rintro e w6 ⟨rfl, hb6⟩; have HB6 := hid (bel_step HB5.out hb6); have c0 := keeps hb6 c0; have c1 := keeps hb6 c1)
        | (go_at_call 26; refine (HS2.out _ (HL.out.below HB6.out)).mono ?_; rintro e w7 ⟨rfl, hb7⟩; have HB7 := hid (bel_step HB6.out hb7); have c0 := keeps hb7 c0; have c1 := keeps hb7 c1))
      generalize rErr q ws [] = a3 at *
      generalize syncB (syncN (nxN ws) (sizeW ws) q.toNat) = a4 at *
      generalize syncS (syncN (nxN ws) (sizeW ws) q.toNat) = a5 at *
      generalize sErr q ws = a6 at *
      generalize (if a6 = 0 then a5 else ⟨#[]⟩) = a7 at *
      generalize (decide (a6 = 0) && a4) = a8 at *
      go_wp2_with (first
        | (go_at_call 27; refine (HLs.out _).mono ?_; rintro e w8 ⟨rfl, hD⟩; have HB8 := hid (bel_step HB7.out (hD.below _)))
        | (go_at_call 12; refine (HAw.out _).mono ?_; rintro e w9 ⟨rfl, hb9⟩))
      go_ret
      exact ⟨rfl, bel_step HB8.out hb9⟩
  · go_wp2_with (first
      | (go_at_call 11; refine (HGr.out _ (HL.out.below HB0.out) (Sl.nil 1 _)).mono ?_; rintro e w1 ⟨rfl, hb1⟩; have HB1 := hid (bel_step HB0.out hb1); have c0 := keeps hb1 c0; have c1 := keeps hb1 c1)
      | (go_at_call 12; refine (HAw.out _).mono ?_; rintro e w9 ⟨rfl, hb9⟩))
    go_ret
    exact ⟨rfl, bel_step HB1.out hb9⟩
end Go.Proofs.Ytalklhjmnoodeaa
