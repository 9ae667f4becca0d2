/-
  The law ProgramTexts: the walk.
  No condition beyond the code and the outputs lying in slices.
-/
import Derived.Test.YtmabciajhmjmeaaGreatDoorRows
import Derived.Test.YtmabciajhmjmeaaGreatDoorAwake53
import Derived.Test.YtmabciajhmjmeaaGreatDoorRfPrint
import Derived.Test.YtmabciajhmjmeaaGreatDoorPrSame
import Derived.Test.YtmabciajhmjmeaaGreatDoorPrGreat
import Derived.Lib.LaidTab
import Derived.LaidMore
import Derived.MakeChecks
namespace Go.Proofs.YtmabciajhmjmeaaGreatDoor
open Go.RowKit
set_option linter.unusedVariables false

theorem txt_env {W : World} (h : laidMetH Tryz.prog Rows.programTextsRow.laid W) (hG : W.ShapedOpen Tryz.prog) : TxtEnv W := by
  rw [MakeChecks.laidMetH_plain _ _ _ (by kernel_rfl)] at h
  obtain ⟨ps, ⟨_, _, _, _, _, _, _, _, _, _, ⟨_, _, _, _, _, _, _, _, _, _, ⟨g3, t3, cs3, f3, p3, q3, hg3, ht3, hv3, hd3, ⟨_, _, _, _, _, _, _, _, _, _, ⟨g5, t5, cs5, f5, p5, q5, hg5, ht5, hv5, hd5, ⟨g6, t6, cs6, f6, p6, q6, hg6, ht6, hv6, hd6, _, _⟩, _⟩, _⟩, _⟩, _⟩, _⟩, _⟩ := h
  refine ⟨Tryz.laysM146.s1_3 W hG, ?_, ?_, ?_⟩
  · obtain rfl := Option.some.inj ((show Tryz.prog.globalNamed "internal/strconv.uint64pow10" = some 0 by kernel_rfl).symm.trans hg3)
    obtain rfl := Option.some.inj ((show (Tryz.prog.globals[0]?).map (·.type) = some 126 by kernel_rfl).symm.trans ht3)
    have hc := Lib.cells_of_tab (zs := Lib.pow10Tab) Tryz.underlying126 Tryz.underlying111 (by kernel_rfl) (by kernel_rfl) hd3
    unfold Lib.TabIs
    rw [hv3, ← hc]
  · obtain rfl := Option.some.inj ((show Tryz.prog.globalNamed "strconv.ErrSyntax" = some 2 by kernel_rfl).symm.trans hg6)
    obtain rfl := Option.some.inj ((show (Tryz.prog.globals[2]?).map (·.type) = some 45 by kernel_rfl).symm.trans ht6)
    obtain ⟨_, u, v, hcs, _, _⟩ := iface_of_trod Tryz.underlying45 hd6
    refine ⟨.iface u v, ?_, .inr ⟨u, v, rfl⟩⟩
    have h0 := World.var?_cell hg6 hv6 0
    rw [h0, ← Array.getElem?_toList, hcs]
    rfl
  · obtain rfl := Option.some.inj ((show Tryz.prog.globalNamed "strconv.ErrRange" = some 3 by kernel_rfl).symm.trans hg5)
    obtain rfl := Option.some.inj ((show (Tryz.prog.globals[3]?).map (·.type) = some 45 by kernel_rfl).symm.trans ht5)
    obtain ⟨_, u, v, hcs, _, _⟩ := iface_of_trod Tryz.underlying45 hd5
    refine ⟨.iface u v, ?_, .inr ⟨u, v, rfl⟩⟩
    have h0 := World.var?_cell hg5 hv5 0
    rw [h0, ← Array.getElem?_toList, hcs]
    rfl
theorem ndig_le : ∀ (k u : Nat), 1 ≤ k → u < 10 ^ k → Lib.nDigits u ≤ k
  | 0, u, h, _ => by omega
  | k + 1, u, _, h => by
    by_cases h10 : u < 10
    · rw [Lib.nDigits_small h10]; omega
    · rw [Lib.nDigits_big h10]
      have h1 : 1 ≤ k := by
        rcases Nat.eq_zero_or_pos k with h0 | h0
        · subst h0; simp at h; omega
        · exact h0
      have := ndig_le k (u / 10) h1 (by rw [Nat.pow_succ] at h; omega)
      omega
theorem dgT_len {k : Int} (h : k ≤ 1000000) : (dgT k).length ≤ 20 := by
  have h1 := Lib.decDigits_length k.toNat
  have h2 := ndig_le 7 k.toNat (by decide) (by omega)
  have e : (dgT k).length = (Lib.decDigits k.toNat).length := rfl
  omega
/-- Print at a program that is not valid. -/
theorem print_bad (n : Int) (vc vo : Value) (c : List Ins) (o : List Int) (w : World) (hc : Sl 3 w vc c.length (icells c)) (ho : Sl 1 w vo o.length (ints o)) (he : progErr n c o ≠ 0) :
    Calls Tryz.prog 6 #[.agg #[.int .i64 n, vc, vo]] w fun e w' => e = .returned (.tuple #[.string ⟨#[]⟩, .int .i64 1]) ∧ Below w.heap.size w w' := by
  have HC := hid hc
  have HO := hid ho
  have HCk := hid (fun X h1 h2 => pcheck_any n vc vo c o X h1 h2)
  obtain ⟨ac, cc, rfl, _, hc1, hc2, hc3⟩ := hc
  obtain ⟨ao, co, rfl, _, ho1, ho2, ho3⟩ := ho
  have hE1 : (progErr n c o != 0) = true := by simpa using he
  clear hc3 ho3 he
  generalize progErr n c o = E at *
  go_enter Tryz.func6, Tryz.ntmps6
  go_upto_region 1 with fail
  obtain ⟨w0, hw0⟩ : ∃ w0, w.alloc (.cells #[.int .i64 n, .slice ac c.length cc, .slice ao o.length co] 25) = w0 := ⟨_, rfl⟩
  obtain ⟨hb0, c0, c1, c2⟩ := boxP hw0
  rw [hw0]
  have HB0 := hid hb0
  clear hw0 hb0
  go_wp2_with (go_at_call 13; refine (HCk.out _ (HC.out.below HB0.out) (HO.out.below HB0.out)).mono ?_; rintro e w1 ⟨rfl, hb1⟩)
  go_ret2
  exact ⟨rfl, bel_step HB0.out hb1⟩
/-- Print at a valid program. -/
theorem print_good (n : Int) (vc vo : Value) (c : List Ins) (o : List Int) (w : World) (hc : Sl 3 w vc c.length (icells c)) (ho : Sl 1 w vo o.length (ints o)) (he : progErr n c o = 0) (E : TxtEnv w) :
    Calls Tryz.prog 6 #[.agg #[.int .i64 n, vc, vo]] w fun e w' => e = .returned (.tuple #[.string (printS dgT n c o), .int .i64 (printE dgT n c o)]) ∧ Below w.heap.size w w' := by
  obtain ⟨h1, h2, h3, h4, h5, h6⟩ := progErr_zero.1 he
  refine print_any dgT n vc vo c o w hc ho (fun k X hk0 hk hX => ?_) (fun k hk0 hk => dgT_len (by omega))
  have := itoa_any k.toNat X (by omega) (E.below hX)
  rw [show ((k.toNat : Nat) : Int) = k by omega] at this
  exact this
/-- Print at any program. -/
theorem print_all (n : Int) (vc vo : Value) (c : List Ins) (o : List Int) (w : World) (hc : Sl 3 w vc c.length (icells c)) (ho : Sl 1 w vo o.length (ints o)) (E : TxtEnv w) :
    Calls Tryz.prog 6 #[.agg #[.int .i64 n, vc, vo]] w fun e w' => e = .returned (.tuple #[.string (printS dgT n c o), .int .i64 (printE dgT n c o)]) ∧ Below w.heap.size w w' := by
  by_cases he : progErr n c o = 0
  · exact print_good n vc vo c o w hc ho he E
  · refine (print_bad n vc vo c o w hc ho he).mono ?_
    rintro e w' ⟨rfl, hb⟩
    exact ⟨ret_print (by rw [printE, if_pos he]) (by decide), hb⟩
theorem sizes_of {c : List Ins} {o : List Int} (h : greatB c o = false) : c.length ≤ 30 ∧ o.length ≤ 30 := by
  unfold greatB at h
  simp only [Bool.or_eq_false_iff, decide_eq_false_iff_not] at h
  omega
set_option maxRecDepth 100000 in
set_option maxHeartbeats 4000000 in
theorem programTexts_any (n : Int) (vc vo : Value) (c : List Ins) (o : List Int) (s : ByteArray) (w : World) (hc : Sl 3 w vc c.length (icells c)) (ho : Sl 1 w vo o.length (ints o)) (_hs : s.size ≤ maxLen) (hL : laidMetH Tryz.prog Rows.programTextsRow.laid w) (hG : w.ShapedOpen Tryz.prog) :
    Calls Tryz.prog 3 #[.agg #[.int .i64 n, vc, vo], .string s] w fun e w' => e = .returned (.bool true) ∧ Below w.heap.size w w' := by
  have HE := hid (txt_env hL hG)
  have HC := hid hc
  have HO := hid ho
  have HGr := hid (fun X h1 h2 => pgreat_any n vc vo c o X h1 h2)
  obtain ⟨ac, cc, rfl, _, hc1, hc2, hc3⟩ := hc
  obtain ⟨ao, co, rfl, _, ho1, ho2, ho3⟩ := ho
  clear hc3 ho3 hL hG _hs
  have hleave : (greatB c o = true ∨ (400 < s.size ∧ s.size ≤ 65536)) ∨ (greatB c o = false ∧ (s.size ≤ 400 ∨ 65536 < s.size)) := by
    cases greatB c o
    · rcases Nat.lt_or_ge 400 s.size with h | h
      · rcases Nat.lt_or_ge 65536 s.size with h2 | h2
        · exact .inr ⟨rfl, .inr h2⟩
        · exact .inl (.inr ⟨h, h2⟩)
      · exact .inr ⟨rfl, .inl h⟩
    · exact .inl (.inl rfl)
  rcases hleave with hle | ⟨hg, hs⟩
  · have hcase : ∀ Q : Prop, (greatB c o = true → Q) → (greatB c o = false → (400 : Int) < (s.size : Int) → (s.size : Int) ≤ 65536 → Q) → Q := by
      intro Q q1 q2
      cases hgb : greatB c o
      · rcases hle with h | ⟨h1, h2⟩
        · rw [hgb] at h; cases h
        · exact q2 hgb (by omega) (by omega)
      · exact q1 hgb
    refine hcase _ (fun hg => ?_) (fun hg h4 h6 => ?_) <;> clear hcase hle <;> rw [hg] at HGr <;> clear hg
    all_goals
      go_enter Tryz.func3, Tryz.ntmps3
      go_upto_region 1 with fail
      obtain ⟨w0, hw0⟩ : ∃ w0, w.alloc (.cells #[.int .i64 n, .slice ac c.length cc, .slice ao o.length co] 25) = w0 := ⟨_, rfl⟩
      obtain ⟨hb0, c0, c1, c2⟩ := boxP hw0
      rw [hw0]
      have HB0 := hid hb0
      clear hw0 hb0
      go_wp2_with (first
        | (go_at_call 4; refine (HGr.out _ (HC.out.below HB0.out) (HO.out.below HB0.out)).mono ?_; rintro e w1 ⟨rfl, hb1⟩; have HB1 := hid (bel_step HB0.out hb1))
        | (go_at_call 5; refine (awake_any _).mono ?_; rintro e w2 ⟨rfl, hb2⟩))
      go_ret
      exact ⟨rfl, bel_step HB1.out hb2⟩
  · obtain ⟨hcl, hol⟩ := sizes_of hg
    rw [hg] at HGr
    have HPr := hid (fun X h1 h2 E => print_all n (.slice ac c.length cc) (.slice ao o.length co) c o X h1 h2 E)
    have HRp := hid (fun X h1 h2 => rprint_any n (.slice ac c.length cc) (.slice ao o.length co) c o X h1 h2 hcl hol)
    have HPs := hid (fun X h => parse_any s X h)
    have HRs := hid (fun X => rparse_any s X)
    unfold ParPost at HPs HRs
    clear hg hcl hol
    generalize printS dgT n c o = PS at *
    generalize printE dgT n c o = PE at *
    generalize parR s = R at *
    obtain ⟨n2, c3, o3, e2⟩ := R
    simp only at HPs HRs
    have hcase : ∀ Q : Prop, (¬ (400 : Int) < (s.size : Int) → Q) → ((400 : Int) < (s.size : Int) → ¬ (s.size : Int) ≤ 65536 → Q) → Q := by
      intro Q q1 q2
      rcases hs with h | h
      · exact q1 (by omega)
      · exact q2 (by omega) (by omega)
    refine hcase _ (fun h4 => ?_) (fun h4 h6 => ?_) <;> clear hcase hs
    all_goals
      go_enter Tryz.func3, Tryz.ntmps3
      go_upto_region 1 with fail
      obtain ⟨w0, hw0⟩ : ∃ w0, w.alloc (.cells #[.int .i64 n, .slice ac c.length cc, .slice ao o.length co] 25) = w0 := ⟨_, rfl⟩
      obtain ⟨hb0, c0, c1, c2⟩ := boxP hw0
      rw [hw0]
      have HB0 := hid hb0
      clear hw0 hb0
      go_upto_region 5 with (first
        | (go_at_call 4; refine (HGr.out _ (HC.out.below HB0.out) (HO.out.below HB0.out)).mono ?_; rintro e w1 ⟨rfl, hb1⟩; have HB1 := hid (bel_step HB0.out hb1); have c0 := keeps hb1 c0; have c1 := keeps hb1 c1; have c2 := keeps hb1 c2)
        | (go_at_call 6; refine (HPr.out _ (HC.out.below HB1.out) (HO.out.below HB1.out) (HE.out.below HB1.out)).mono ?_; rintro e w2 ⟨rfl, hb2⟩; have HB2 := hid (bel_step HB1.out hb2); have c0 := keeps hb2 c0; have c1 := keeps hb2 c1; have c2 := keeps hb2 c2)
        | (go_at_call 7; refine (HRp.out _ (HC.out.below HB2.out) (HO.out.below HB2.out)).mono ?_; rintro e w3 ⟨rfl, hb3⟩; have HB3 := hid (bel_step HB2.out hb3)))
      go_upto_region 6 with (go_at_call 8; refine (HPs.out _ (HE.out.below HB3.out)).mono ?_; rintro e w6 ⟨vs, vt, rfl, hs1, hs2, hb6⟩; have HB6 := hid (bel_step HB3.out hb6); have HS1 := hid hs1; have HS2 := hid hs2; obtain ⟨as_, cs_, rfl, -⟩ := hs1; obtain ⟨at_, ct_, rfl, -⟩ := hs2; clear hb6)
      obtain ⟨w7, hw7⟩ : ∃ w7, w6.alloc (.cells #[.int .i64 n2, .slice as_ c3.length cs_, .slice at_ o3.length ct_] 25) = w7 := ⟨_, rfl⟩
      obtain ⟨hb7, m0, m1, m2⟩ := boxP hw7
      have HS1 := hid (HS1.out.below hb7)
      have HS2 := hid (HS2.out.below hb7)
      have HB7 := hid (bel_step HB6.out hb7)
      rw [hw7]
      clear hw7 hb7
      go_upto_region 7 with (go_at_call 9; refine (HRs.out _).mono ?_; rintro e w8 ⟨vs2, vt2, rfl, hs3, hs4, hb8⟩; have HB8 := hid (bel_step HB7.out hb8); have m0 := keeps hb8 m0; have m1 := keeps hb8 m1; have m2 := keeps hb8 m2; have HS1 := hid (HS1.out.below hb8); have HS2 := hid (HS2.out.below hb8); have HS3 := hid hs3; have HS4 := hid hs4; obtain ⟨au_, cu_, rfl, -⟩ := hs3; obtain ⟨av_, cv_, rfl, -⟩ := hs4; clear hb8)
      obtain ⟨w9, hw9⟩ : ∃ w9, w8.alloc (.cells #[.int .i64 n2, .slice au_ c3.length cu_, .slice av_ o3.length cv_] 25) = w9 := ⟨_, rfl⟩
      obtain ⟨hb9, k0, k1, k2⟩ := boxP hw9
      have HS1 := hid (HS1.out.below hb9)
      have HS2 := hid (HS2.out.below hb9)
      have HS3 := hid (HS3.out.below hb9)
      have HS4 := hid (HS4.out.below hb9)
      have m0 := keeps hb9 m0
      have m1 := keeps hb9 m1
      have m2 := keeps hb9 m2
      have HB9 := hid (bel_step HB8.out hb9)
      rw [hw9]
      clear hw9 hb9
      go_wp2_with (first
        | (go_at_call 10; refine (psame_any n2 _ _ _ _ c3 o3 _ HS1.out HS2.out HS3.out HS4.out).mono ?_; rintro e wy ⟨rfl, hby⟩; have HBy := hid (bel_step HB9.out hby))
        | (go_at_call 5; refine (awake_any _).mono ?_; rintro e wz ⟨rfl, hbz⟩))
      go_ret
      exact ⟨rfl, bel_step HBy.out hbz⟩
end Go.Proofs.YtmabciajhmjmeaaGreatDoor
