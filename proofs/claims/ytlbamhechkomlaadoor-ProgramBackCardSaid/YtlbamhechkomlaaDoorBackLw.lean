/-
  The law ProgramBack: the walk.
  No condition beyond the code and the outputs lying in slices.
-/
import Derived.Test.YtlbamhechkomlaaDoorRows
import Derived.Test.YtlbamhechkomlaaDoorAwake53
import Derived.Test.YtlbamhechkomlaaDoorPrParse
import Derived.Test.YtlbamhechkomlaaDoorInsPrt
import Derived.Test.YtlbamhechkomlaaDoorPrSame
import Derived.Test.YtlbamhechkomlaaDoorPrGreat
import Derived.Lib.LaidTab
import Derived.LaidMore
import Derived.MakeChecks
namespace Go.Proofs.YtlbamhechkomlaaDoor
open Go.RowKit
set_option linter.unusedVariables false

theorem txt_env {W : World} (h : laidMetH Tryd.prog Rows.programBackRow.laid W) (hG : W.ShapedOpen Tryd.prog) : TxtEnv W := by
  rw [MakeChecks.laidMetH_plain _ _ _ (by kernel_rfl)] at h
  obtain ⟨ps, ⟨_, _, _, _, _, _, _, _, _, _, ⟨_, _, _, _, _, _, _, _, _, _, ⟨g3, t3, cs3, f3, p3, q3, hg3, ht3, hv3, hd3, ⟨_, _, _, _, _, _, _, _, _, _, ⟨g5, t5, cs5, f5, p5, q5, hg5, ht5, hv5, hd5, ⟨g6, t6, cs6, f6, p6, q6, hg6, ht6, hv6, hd6, _, _⟩, _⟩, _⟩, _⟩, _⟩, _⟩, _⟩ := h
  refine ⟨Tryd.laysM146.s1_3 W hG, ?_, ?_, ?_⟩
  · obtain rfl := Option.some.inj ((show Tryd.prog.globalNamed "internal/strconv.uint64pow10" = some 0 by kernel_rfl).symm.trans hg3)
    obtain rfl := Option.some.inj ((show (Tryd.prog.globals[0]?).map (·.type) = some 120 by kernel_rfl).symm.trans ht3)
    have hc := Lib.cells_of_tab (zs := Lib.pow10Tab) Tryd.underlying120 Tryd.underlying105 (by kernel_rfl) (by kernel_rfl) hd3
    unfold Lib.TabIs
    rw [hv3, ← hc]
  · obtain rfl := Option.some.inj ((show Tryd.prog.globalNamed "strconv.ErrSyntax" = some 2 by kernel_rfl).symm.trans hg6)
    obtain rfl := Option.some.inj ((show (Tryd.prog.globals[2]?).map (·.type) = some 45 by kernel_rfl).symm.trans ht6)
    obtain ⟨_, u, v, hcs, _, _⟩ := iface_of_trod Tryd.underlying45 hd6
    refine ⟨.iface u v, ?_, .inr ⟨u, v, rfl⟩⟩
    have h0 := World.var?_cell hg6 hv6 0
    rw [h0, ← Array.getElem?_toList, hcs]
    rfl
  · obtain rfl := Option.some.inj ((show Tryd.prog.globalNamed "strconv.ErrRange" = some 3 by kernel_rfl).symm.trans hg5)
    obtain rfl := Option.some.inj ((show (Tryd.prog.globals[3]?).map (·.type) = some 45 by kernel_rfl).symm.trans ht5)
    obtain ⟨_, u, v, hcs, _, _⟩ := iface_of_trod Tryd.underlying45 hd5
    refine ⟨.iface u v, ?_, .inr ⟨u, v, rfl⟩⟩
    have h0 := World.var?_cell hg5 hv5 0
    rw [h0, ← Array.getElem?_toList, hcs]
    rfl
theorem ndig_le : ∀ (k u : Nat), 1 ≤ k → u < 10 ^ k → Lib.nDigits u ≤ k
  | 0, u, h, _ => by omega
  | k + 1, u, _, h => by
    by_cases h10 : u < 10
    · rw [Lib.nDigits_small h10]; omega
    · rw [Lib.nDigits_big h10]
      have h1 : 1 ≤ k := by
        rcases Nat.eq_zero_or_pos k with h0 | h0
        · subst h0; simp at h; omega
        · exact h0
      have := ndig_le k (u / 10) h1 (by rw [Nat.pow_succ] at h; omega)
      omega
theorem dgT_len {k : Int} (h : k ≤ 1000000) : (dgT k).length ≤ 20 := by
  have h1 := Lib.decDigits_length k.toNat
  have h2 := ndig_le 7 k.toNat (by decide) (by omega)
  have e : (dgT k).length = (Lib.decDigits k.toNat).length := rfl
  omega
theorem parR_cases (s : ByteArray) : (∃ e : Int, e ≠ 0 ∧ parR s = (0, [], [], e)) ∨ (∃ (N : Nat) (c : List Ins) (o : List Nat), parseT s.data.toList = some (N, c, o) ∧ progErr (N : Int) c (natI o) = 0 ∧ s.size ≤ 65536 ∧ parR s = ((N : Int), c, natI o, 0)) := by
  unfold parR
  by_cases h : 65536 < s.size
  · rw [if_pos h]; exact .inl ⟨4, by decide, rfl⟩
  · rw [if_neg h]
    cases hp : parseT s.data.toList with
    | none => exact .inl ⟨3, by decide, rfl⟩
    | some r =>
      obtain ⟨N, c, o⟩ := r
      by_cases hE : progErr (N : Int) c (natI o) = 0
      · exact .inr ⟨N, c, o, rfl, hE, by omega, by simp only; rw [if_pos hE]⟩
      · exact .inl ⟨_, hE, by simp only; rw [if_neg hE]⟩
theorem parse_print {n : Int} {c : List Ins} {o : List Int} (h : progErr n c o = 0) (hl : ¬ 65536 < ((printL dgT n c o).length : Int)) : parR ⟨(printL dgT n c o).toArray⟩ = (n, c, o, 0) := by
  obtain ⟨N, oN, rfl, rfl, hF, hnn⟩ := valid_form h
  have ht := print_text (n := N) (o := oN) hnn
  have hs : (⟨(printL dgT (N : Int) c (oN.map fun k : Nat => (k : Int))).toArray⟩ : ByteArray).size = (printL dgT (N : Int) c (oN.map fun k : Nat => (k : Int))).length := by show (List.toArray _).size = _; simp
  unfold parR
  rw [if_neg (by rw [hs]; omega)]
  have hp := parseT_text hF
  rw [← ht] at hp
  rw [show (⟨(printL dgT (N : Int) c (oN.map fun k : Nat => (k : Int))).toArray⟩ : ByteArray).data.toList = printL dgT (N : Int) c (oN.map fun k : Nat => (k : Int)) from rfl, hp]
  exact if_pos h
theorem print_parse {s : ByteArray} {N : Nat} {c : List Ins} {o : List Nat} (h : parseT s.data.toList = some (N, c, o)) (hE : progErr (N : Int) c (natI o) = 0) (hs : s.size ≤ 65536) : printS dgT (N : Int) c (natI o) = s ∧ printE dgT (N : Int) c (natI o) = 0 := by
  obtain ⟨e, hF⟩ := parseT_some h
  have ht := print_text (n := N) (o := o) (form_nn hF)
  have hl : (printL dgT (N : Int) c (natI o)).length = s.size := by
    rw [show printL dgT (N : Int) c (natI o) = s.data.toList from ht.trans e.symm]; simp
  have h0 : printE dgT (N : Int) c (natI o) = 0 := by rw [printE, if_neg (by simp [hE]), if_neg (by omega)]
  refine ⟨?_, h0⟩
  rw [printS, if_pos h0, show printL dgT (N : Int) c (natI o) = s.data.toList from ht.trans e.symm]
/-- Print at a program that is not valid. -/
theorem print_bad (n : Int) (vc vo : Value) (c : List Ins) (o : List Int) (w : World) (hc : Sl 3 w vc c.length (icells c)) (ho : Sl 1 w vo o.length (ints o)) (he : progErr n c o ≠ 0) :
    Calls Tryd.prog 6 #[.agg #[.int .i64 n, vc, vo]] w fun e w' => e = .returned (.tuple #[.string ⟨#[]⟩, .int .i64 1]) ∧ Below w.heap.size w w' := by
  have HC := hid hc
  have HO := hid ho
  have HCk := hid (fun X h1 h2 => pcheck_any n vc vo c o X h1 h2)
  obtain ⟨ac, cc, rfl, _, hc1, hc2, hc3⟩ := hc
  obtain ⟨ao, co, rfl, _, ho1, ho2, ho3⟩ := ho
  have hE1 : (progErr n c o != 0) = true := by simpa using he
  clear hc3 ho3 he
  generalize progErr n c o = E at *
  go_enter Tryd.func6, Tryd.ntmps6
  go_upto_region 1 with fail
  obtain ⟨w0, hw0⟩ : ∃ w0, w.alloc (.cells #[.int .i64 n, .slice ac c.length cc, .slice ao o.length co] 25) = w0 := ⟨_, rfl⟩
  obtain ⟨hb0, c0, c1, c2⟩ := boxP hw0
  rw [hw0]
  have HB0 := hid hb0
  clear hw0 hb0
  go_wp2_with (go_at_call 9; refine (HCk.out _ (HC.out.below HB0.out) (HO.out.below HB0.out)).mono ?_; rintro e w1 ⟨rfl, hb1⟩)
  go_ret2
  exact ⟨rfl, bel_step HB0.out hb1⟩
/-- Print at a valid program. -/
theorem print_good (n : Int) (vc vo : Value) (c : List Ins) (o : List Int) (w : World) (hc : Sl 3 w vc c.length (icells c)) (ho : Sl 1 w vo o.length (ints o)) (he : progErr n c o = 0) (E : TxtEnv w) :
    Calls Tryd.prog 6 #[.agg #[.int .i64 n, vc, vo]] w fun e w' => e = .returned (.tuple #[.string (printS dgT n c o), .int .i64 (printE dgT n c o)]) ∧ Below w.heap.size w w' := by
  obtain ⟨h1, h2, h3, h4, h5, h6⟩ := progErr_zero.1 he
  refine print_any dgT n vc vo c o w hc ho (fun k X hk0 hk hX => ?_) (fun k hk0 hk => dgT_len (by omega))
  have := itoa_any k.toNat X (by omega) (E.below hX)
  rw [show ((k.toNat : Nat) : Int) = k by omega] at this
  exact this
set_option maxRecDepth 100000 in
set_option maxHeartbeats 4000000 in
theorem programBack_any (n : Int) (vc vo : Value) (c : List Ins) (o : List Int) (s : ByteArray) (w : World) (hc : Sl 3 w vc c.length (icells c)) (ho : Sl 1 w vo o.length (ints o)) (_hs : s.size ≤ maxLen) (hL : laidMetH Tryd.prog Rows.programBackRow.laid w) (hG : w.ShapedOpen Tryd.prog) :
    Calls Tryd.prog 3 #[.agg #[.int .i64 n, vc, vo], .string s] w fun e w' => e = .returned (.bool true) ∧ Below w.heap.size w w' := by
  have HE := hid (txt_env hL hG)
  have HC := hid hc
  have HO := hid ho
  have HGr := hid (fun X h1 h2 => pgreat_any n vc vo c o X h1 h2)
  obtain ⟨ac, cc, rfl, _, hc1, hc2, hc3⟩ := hc
  obtain ⟨ao, co, rfl, _, ho1, ho2, ho3⟩ := ho
  clear hc3 ho3 hL hG _hs
  cases hg : greatB c o
  · rw [hg] at HGr
    clear hg
    by_cases hs4 : 400 < s.size
    · have hsI : (400 : Int) < (s.size : Int) := by omega
      clear hs4
      go_enter Tryd.func3, Tryd.ntmps3
      go_upto_region 1 with fail
      obtain ⟨w0, hw0⟩ : ∃ w0, w.alloc (.cells #[.int .i64 n, .slice ac c.length cc, .slice ao o.length co] 25) = w0 := ⟨_, rfl⟩
      obtain ⟨hb0, c0, c1, c2⟩ := boxP hw0
      rw [hw0]
      have HB0 := hid hb0
      clear hw0 hb0
      go_wp2_with (first
        | (go_at_call 4; refine (HGr.out _ (HC.out.below HB0.out) (HO.out.below HB0.out)).mono ?_; rintro e w1 ⟨rfl, hb1⟩; have HB1 := hid (bel_step HB0.out hb1))
        | (go_at_call 5; refine (awake_any _).mono ?_; rintro e w2 ⟨rfl, hb2⟩))
      go_ret
      exact ⟨rfl, bel_step HB1.out hb2⟩
    have hsI : ¬ (400 : Int) < (s.size : Int) := by omega
    have HPs := hid (fun X h => parse_any s X h)
    unfold ParPost at HPs
    rcases parR_cases s with ⟨e0, he0, hpr⟩ | ⟨N, cq, oq, hpt, hpe, hp6, hpr⟩
    · rw [hpr] at HPs
      have heI : (e0 != 0) = true := by simp [he0]
      clear hs4 hpr he0
      by_cases he : progErr n c o = 0
      · by_cases hlen : 65536 < ((printL dgT n c o).length : Int)
        · have hEp : printE dgT n c o = 4 := by rw [printE, if_neg (by simp [he]), if_pos hlen]
          have HPr := hid (fun X h1 h2 E => print_good n (.slice ac c.length cc) (.slice ao o.length co) c o X h1 h2 he E)
          rw [hEp] at HPr
          clear he hlen hEp
          generalize printS dgT n c o = PS at *
          go_enter Tryd.func3, Tryd.ntmps3
          go_upto_region 1 with fail
          obtain ⟨w0, hw0⟩ : ∃ w0, w.alloc (.cells #[.int .i64 n, .slice ac c.length cc, .slice ao o.length co] 25) = w0 := ⟨_, rfl⟩
          obtain ⟨hb0, c0, c1, c2⟩ := boxP hw0
          rw [hw0]
          have HB0 := hid hb0
          clear hw0 hb0
          go_upto_region 5 with (first
            | (go_at_call 4; refine (HGr.out _ (HC.out.below HB0.out) (HO.out.below HB0.out)).mono ?_; rintro e w1 ⟨rfl, hb1⟩; have HB1 := hid (bel_step HB0.out hb1); have c0 := keeps hb1 c0; have c1 := keeps hb1 c1; have c2 := keeps hb1 c2)
            | (go_at_call 6; refine (HPr.out _ (HC.out.below HB1.out) (HO.out.below HB1.out) (HE.out.below HB1.out)).mono ?_; rintro e w2 ⟨rfl, hb2⟩; have HB2 := hid (bel_step HB1.out hb2)))
          go_upto_region 9 with (go_at_call 7; refine (HPs.out _ (HE.out.below HB2.out)).mono ?_; rintro e w6 ⟨vs, vt, rfl, hs1, hs2, hb6⟩; have HB6 := hid (bel_step HB2.out hb6); have HS1 := hid hs1; have HS2 := hid hs2; obtain ⟨as_, cs_, rfl, -⟩ := hs1; obtain ⟨at_, ct_, rfl, -⟩ := hs2; clear hb6)
          (try simp only [List.length_nil] at HS1 HS2 ⊢)
          obtain ⟨w7, hw7⟩ : ∃ w7, w6.alloc (.cells #[.int .i64 0, .slice as_ 0 cs_, .slice at_ 0 ct_] 25) = w7 := ⟨_, rfl⟩
          obtain ⟨hb7, m0, m1, m2⟩ := boxP hw7
          have HS1 := hid (HS1.out.below hb7)
          have HS2 := hid (HS2.out.below hb7)
          have HB7 := hid (bel_step HB6.out hb7)
          rw [hw7]
          clear hw7 hb7
          go_wp2_with (first
            | (go_at_call 8; refine (psame_any 0 _ _ _ _ [] [] _ HS1.out HS2.out (Sl.nil 3 _) (Sl.nil 1 _)).mono ?_; rintro e w8 ⟨rfl, hb8⟩; have HB8 := hid (bel_step HB7.out hb8))
            | (go_at_call 5; refine (awake_any _).mono ?_; rintro e w9 ⟨rfl, hb9⟩))
          go_ret
          exact ⟨rfl, bel_step HB8.out hb9⟩
        · have hEp : printE dgT n c o = 0 := by rw [printE, if_neg (by simp [he]), if_neg hlen]
          have HPr := hid (fun X h1 h2 E => print_good n (.slice ac c.length cc) (.slice ao o.length co) c o X h1 h2 he E)
          rw [printS, hEp, if_pos rfl] at HPr
          have HPt := hid (fun X h => parse_any ⟨(printL dgT n c o).toArray⟩ X h)
          unfold ParPost at HPt
          rw [parse_print he hlen] at HPt
          clear he hlen hEp
          generalize (⟨(printL dgT n c o).toArray⟩ : ByteArray) = TX at *
          go_enter Tryd.func3, Tryd.ntmps3
          go_upto_region 1 with fail
          obtain ⟨w0, hw0⟩ : ∃ w0, w.alloc (.cells #[.int .i64 n, .slice ac c.length cc, .slice ao o.length co] 25) = w0 := ⟨_, rfl⟩
          obtain ⟨hb0, c0, c1, c2⟩ := boxP hw0
          rw [hw0]
          have HB0 := hid hb0
          clear hw0 hb0
          go_upto_region 6 with (first
            | (go_at_call 4; refine (HGr.out _ (HC.out.below HB0.out) (HO.out.below HB0.out)).mono ?_; rintro e w1 ⟨rfl, hb1⟩; have HB1 := hid (bel_step HB0.out hb1); have c0 := keeps hb1 c0; have c1 := keeps hb1 c1; have c2 := keeps hb1 c2)
            | (go_at_call 6; refine (HPr.out _ (HC.out.below HB1.out) (HO.out.below HB1.out) (HE.out.below HB1.out)).mono ?_; rintro e w2 ⟨rfl, hb2⟩; have HB2 := hid (bel_step HB1.out hb2); have c0 := keeps hb2 c0; have c1 := keeps hb2 c1; have c2 := keeps hb2 c2)
            | (go_at_call 7; refine (HPt.out _ (HE.out.below HB2.out)).mono ?_; rintro e w3 ⟨vq, vp, rfl, hq1, hq2, hb3⟩; have HB3 := hid (bel_step HB2.out hb3); have c0 := keeps hb3 c0; have c1 := keeps hb3 c1; have c2 := keeps hb3 c2; have HQ1 := hid hq1; have HQ2 := hid hq2; obtain ⟨aq, cpq, rfl, -⟩ := hq1; obtain ⟨ap, cpp, rfl, -⟩ := hq2; clear hb3))
          (try simp only at HQ1 HQ2 ⊢)
          obtain ⟨w4, hw4⟩ : ∃ w4, w3.alloc (.cells #[.int .i64 n, .slice aq c.length cpq, .slice ap o.length cpp] 25) = w4 := ⟨_, rfl⟩
          obtain ⟨hb4, k0, k1, k2⟩ := boxP hw4
          have c0 := keeps hb4 c0
          have c1 := keeps hb4 c1
          have c2 := keeps hb4 c2
          have HQ1 := hid (HQ1.out.below hb4)
          have HQ2 := hid (HQ2.out.below hb4)
          have HB4 := hid (bel_step HB3.out hb4)
          rw [hw4]
          clear hw4 hb4
          go_upto_region 8 with (go_at_call 8; refine (psame_any n _ _ _ _ c o _ HQ1.out HQ2.out (HC.out.below HB4.out) (HO.out.below HB4.out)).mono ?_; rintro e w5 ⟨rfl, hb5⟩; have HB5 := hid (bel_step HB4.out hb5))
          go_upto_region 9 with (go_at_call 7; refine (HPs.out _ (HE.out.below HB5.out)).mono ?_; rintro e w6 ⟨vs, vt, rfl, hs1, hs2, hb6⟩; have HB6 := hid (bel_step HB5.out hb6); have HS1 := hid hs1; have HS2 := hid hs2; obtain ⟨as_, cs_, rfl, -⟩ := hs1; obtain ⟨at_, ct_, rfl, -⟩ := hs2; clear hb6)
          (try simp only [List.length_nil] at HS1 HS2 ⊢)
          obtain ⟨w7, hw7⟩ : ∃ w7, w6.alloc (.cells #[.int .i64 0, .slice as_ 0 cs_, .slice at_ 0 ct_] 25) = w7 := ⟨_, rfl⟩
          obtain ⟨hb7, m0, m1, m2⟩ := boxP hw7
          have HS1 := hid (HS1.out.below hb7)
          have HS2 := hid (HS2.out.below hb7)
          have HB7 := hid (bel_step HB6.out hb7)
          rw [hw7]
          clear hw7 hb7
          go_wp2_with (first
            | (go_at_call 8; refine (psame_any 0 _ _ _ _ [] [] _ HS1.out HS2.out (Sl.nil 3 _) (Sl.nil 1 _)).mono ?_; rintro e w8 ⟨rfl, hb8⟩; have HB8 := hid (bel_step HB7.out hb8))
            | (go_at_call 5; refine (awake_any _).mono ?_; rintro e w9 ⟨rfl, hb9⟩))
          go_ret
          exact ⟨rfl, bel_step HB8.out hb9⟩
      · have HPr := hid (fun X h1 h2 => print_bad n (.slice ac c.length cc) (.slice ao o.length co) c o X h1 h2 he)
        clear he
        go_enter Tryd.func3, Tryd.ntmps3
        go_upto_region 1 with fail
        obtain ⟨w0, hw0⟩ : ∃ w0, w.alloc (.cells #[.int .i64 n, .slice ac c.length cc, .slice ao o.length co] 25) = w0 := ⟨_, rfl⟩
        obtain ⟨hb0, c0, c1, c2⟩ := boxP hw0
        rw [hw0]
        have HB0 := hid hb0
        clear hw0 hb0
        go_upto_region 5 with (first
          | (go_at_call 4; refine (HGr.out _ (HC.out.below HB0.out) (HO.out.below HB0.out)).mono ?_; rintro e w1 ⟨rfl, hb1⟩; have HB1 := hid (bel_step HB0.out hb1); have c0 := keeps hb1 c0; have c1 := keeps hb1 c1; have c2 := keeps hb1 c2)
          | (go_at_call 6; refine (HPr.out _ (HC.out.below HB1.out) (HO.out.below HB1.out)).mono ?_; rintro e w2 ⟨rfl, hb2⟩; have HB2 := hid (bel_step HB1.out hb2)))
        go_upto_region 9 with (go_at_call 7; refine (HPs.out _ (HE.out.below HB2.out)).mono ?_; rintro e w6 ⟨vs, vt, rfl, hs1, hs2, hb6⟩; have HB6 := hid (bel_step HB2.out hb6); have HS1 := hid hs1; have HS2 := hid hs2; obtain ⟨as_, cs_, rfl, -⟩ := hs1; obtain ⟨at_, ct_, rfl, -⟩ := hs2; clear hb6)
        (try simp only [List.length_nil] at HS1 HS2 ⊢)
        obtain ⟨w7, hw7⟩ : ∃ w7, w6.alloc (.cells #[.int .i64 0, .slice as_ 0 cs_, .slice at_ 0 ct_] 25) = w7 := ⟨_, rfl⟩
        obtain ⟨hb7, m0, m1, m2⟩ := boxP hw7
        have HS1 := hid (HS1.out.below hb7)
        have HS2 := hid (HS2.out.below hb7)
        have HB7 := hid (bel_step HB6.out hb7)
        rw [hw7]
        clear hw7 hb7
        go_wp2_with (first
          | (go_at_call 8; refine (psame_any 0 _ _ _ _ [] [] _ HS1.out HS2.out (Sl.nil 3 _) (Sl.nil 1 _)).mono ?_; rintro e w8 ⟨rfl, hb8⟩; have HB8 := hid (bel_step HB7.out hb8))
          | (go_at_call 5; refine (awake_any _).mono ?_; rintro e w9 ⟨rfl, hb9⟩))
        go_ret
        exact ⟨rfl, bel_step HB8.out hb9⟩
    · obtain ⟨hS, hEz⟩ := print_parse hpt hpe hp6
      rw [hpr] at HPs
      have HPq := hid (fun vq vp X h1 h2 E => print_good (N : Int) vq vp cq (natI oq) X h1 h2 hpe E)
      rw [hS, hEz] at HPq
      have HCq := hid (fun vq vp X h1 h2 => pcheck_any (N : Int) vq vp cq (natI oq) X h1 h2)
      rw [hpe] at HCq
      clear hs4 hpr hS hEz hpe hpt hp6
      generalize natI oq = oz at *
      by_cases he : progErr n c o = 0
      · by_cases hlen : 65536 < ((printL dgT n c o).length : Int)
        · have hEp : printE dgT n c o = 4 := by rw [printE, if_neg (by simp [he]), if_pos hlen]
          have HPr := hid (fun X h1 h2 E => print_good n (.slice ac c.length cc) (.slice ao o.length co) c o X h1 h2 he E)
          rw [hEp] at HPr
          clear he hlen hEp
          generalize printS dgT n c o = PS at *
          go_enter Tryd.func3, Tryd.ntmps3
          go_upto_region 1 with fail
          obtain ⟨w0, hw0⟩ : ∃ w0, w.alloc (.cells #[.int .i64 n, .slice ac c.length cc, .slice ao o.length co] 25) = w0 := ⟨_, rfl⟩
          obtain ⟨hb0, c0, c1, c2⟩ := boxP hw0
          rw [hw0]
          have HB0 := hid hb0
          clear hw0 hb0
          go_upto_region 5 with (first
            | (go_at_call 4; refine (HGr.out _ (HC.out.below HB0.out) (HO.out.below HB0.out)).mono ?_; rintro e w1 ⟨rfl, hb1⟩; have HB1 := hid (bel_step HB0.out hb1); have c0 := keeps hb1 c0; have c1 := keeps hb1 c1; have c2 := keeps hb1 c2)
            | (go_at_call 6; refine (HPr.out _ (HC.out.below HB1.out) (HO.out.below HB1.out) (HE.out.below HB1.out)).mono ?_; rintro e w2 ⟨rfl, hb2⟩; have HB2 := hid (bel_step HB1.out hb2)))
          go_upto_region 9 with (go_at_call 7; refine (HPs.out _ (HE.out.below HB2.out)).mono ?_; rintro e w6 ⟨vs, vt, rfl, hs1, hs2, hb6⟩; have HB6 := hid (bel_step HB2.out hb6); have HS1 := hid hs1; have HS2 := hid hs2; obtain ⟨as_, cs_, rfl, -⟩ := hs1; obtain ⟨at_, ct_, rfl, -⟩ := hs2; clear hb6)
          (try simp only at HS1 HS2 ⊢)
          obtain ⟨w7, hw7⟩ : ∃ w7, w6.alloc (.cells #[.int .i64 (N : Int), .slice as_ cq.length cs_, .slice at_ oz.length ct_] 25) = w7 := ⟨_, rfl⟩
          obtain ⟨hb7, m0, m1, m2⟩ := boxP hw7
          have HS1 := hid (HS1.out.below hb7)
          have HS2 := hid (HS2.out.below hb7)
          have HB7 := hid (bel_step HB6.out hb7)
          rw [hw7]
          clear hw7 hb7
          go_upto_region 12 with (go_at_call 6; refine (HPq.out _ _ _ HS1.out HS2.out (HE.out.below HB7.out)).mono ?_; rintro e w8 ⟨rfl, hb8⟩; have HB8 := hid (bel_step HB7.out hb8); have m0 := keeps hb8 m0; have m1 := keeps hb8 m1; have m2 := keeps hb8 m2; have HS1 := hid (HS1.out.below hb8); have HS2 := hid (HS2.out.below hb8); clear hb8)
          go_wp2_with (first
            | (go_at_call 9; refine (HCq.out _ _ _ HS1.out HS2.out).mono ?_; rintro e w9 ⟨rfl, hb9⟩; have HB9 := hid (bel_step HB8.out hb9); clear hb9)
            | (go_at_call 5; refine (awake_any _).mono ?_; rintro e wz ⟨rfl, hbz⟩))
          go_ret
          exact ⟨rfl, bel_step HB9.out hbz⟩
        · have hEp : printE dgT n c o = 0 := by rw [printE, if_neg (by simp [he]), if_neg hlen]
          have HPr := hid (fun X h1 h2 E => print_good n (.slice ac c.length cc) (.slice ao o.length co) c o X h1 h2 he E)
          rw [printS, hEp, if_pos rfl] at HPr
          have HPt := hid (fun X h => parse_any ⟨(printL dgT n c o).toArray⟩ X h)
          unfold ParPost at HPt
          rw [parse_print he hlen] at HPt
          clear he hlen hEp
          generalize (⟨(printL dgT n c o).toArray⟩ : ByteArray) = TX at *
          go_enter Tryd.func3, Tryd.ntmps3
          go_upto_region 1 with fail
          obtain ⟨w0, hw0⟩ : ∃ w0, w.alloc (.cells #[.int .i64 n, .slice ac c.length cc, .slice ao o.length co] 25) = w0 := ⟨_, rfl⟩
          obtain ⟨hb0, c0, c1, c2⟩ := boxP hw0
          rw [hw0]
          have HB0 := hid hb0
          clear hw0 hb0
          go_upto_region 6 with (first
            | (go_at_call 4; refine (HGr.out _ (HC.out.below HB0.out) (HO.out.below HB0.out)).mono ?_; rintro e w1 ⟨rfl, hb1⟩; have HB1 := hid (bel_step HB0.out hb1); have c0 := keeps hb1 c0; have c1 := keeps hb1 c1; have c2 := keeps hb1 c2)
            | (go_at_call 6; refine (HPr.out _ (HC.out.below HB1.out) (HO.out.below HB1.out) (HE.out.below HB1.out)).mono ?_; rintro e w2 ⟨rfl, hb2⟩; have HB2 := hid (bel_step HB1.out hb2); have c0 := keeps hb2 c0; have c1 := keeps hb2 c1; have c2 := keeps hb2 c2)
            | (go_at_call 7; refine (HPt.out _ (HE.out.below HB2.out)).mono ?_; rintro e w3 ⟨vq, vp, rfl, hq1, hq2, hb3⟩; have HB3 := hid (bel_step HB2.out hb3); have c0 := keeps hb3 c0; have c1 := keeps hb3 c1; have c2 := keeps hb3 c2; have HQ1 := hid hq1; have HQ2 := hid hq2; obtain ⟨aq, cpq, rfl, -⟩ := hq1; obtain ⟨ap, cpp, rfl, -⟩ := hq2; clear hb3))
          (try simp only at HQ1 HQ2 ⊢)
          obtain ⟨w4, hw4⟩ : ∃ w4, w3.alloc (.cells #[.int .i64 n, .slice aq c.length cpq, .slice ap o.length cpp] 25) = w4 := ⟨_, rfl⟩
          obtain ⟨hb4, k0, k1, k2⟩ := boxP hw4
          have c0 := keeps hb4 c0
          have c1 := keeps hb4 c1
          have c2 := keeps hb4 c2
          have HQ1 := hid (HQ1.out.below hb4)
          have HQ2 := hid (HQ2.out.below hb4)
          have HB4 := hid (bel_step HB3.out hb4)
          rw [hw4]
          clear hw4 hb4
          go_upto_region 8 with (go_at_call 8; refine (psame_any n _ _ _ _ c o _ HQ1.out HQ2.out (HC.out.below HB4.out) (HO.out.below HB4.out)).mono ?_; rintro e w5 ⟨rfl, hb5⟩; have HB5 := hid (bel_step HB4.out hb5))
          go_upto_region 9 with (go_at_call 7; refine (HPs.out _ (HE.out.below HB5.out)).mono ?_; rintro e w6 ⟨vs, vt, rfl, hs1, hs2, hb6⟩; have HB6 := hid (bel_step HB5.out hb6); have HS1 := hid hs1; have HS2 := hid hs2; obtain ⟨as_, cs_, rfl, -⟩ := hs1; obtain ⟨at_, ct_, rfl, -⟩ := hs2; clear hb6)
          (try simp only at HS1 HS2 ⊢)
          obtain ⟨w7, hw7⟩ : ∃ w7, w6.alloc (.cells #[.int .i64 (N : Int), .slice as_ cq.length cs_, .slice at_ oz.length ct_] 25) = w7 := ⟨_, rfl⟩
          obtain ⟨hb7, m0, m1, m2⟩ := boxP hw7
          have HS1 := hid (HS1.out.below hb7)
          have HS2 := hid (HS2.out.below hb7)
          have HB7 := hid (bel_step HB6.out hb7)
          rw [hw7]
          clear hw7 hb7
          go_upto_region 12 with (go_at_call 6; refine (HPq.out _ _ _ HS1.out HS2.out (HE.out.below HB7.out)).mono ?_; rintro e w8 ⟨rfl, hb8⟩; have HB8 := hid (bel_step HB7.out hb8); have m0 := keeps hb8 m0; have m1 := keeps hb8 m1; have m2 := keeps hb8 m2; have HS1 := hid (HS1.out.below hb8); have HS2 := hid (HS2.out.below hb8); clear hb8)
          go_wp2_with (first
            | (go_at_call 9; refine (HCq.out _ _ _ HS1.out HS2.out).mono ?_; rintro e w9 ⟨rfl, hb9⟩; have HB9 := hid (bel_step HB8.out hb9); clear hb9)
            | (go_at_call 5; refine (awake_any _).mono ?_; rintro e wz ⟨rfl, hbz⟩))
          go_ret
          exact ⟨rfl, bel_step HB9.out hbz⟩
      · have HPr := hid (fun X h1 h2 => print_bad n (.slice ac c.length cc) (.slice ao o.length co) c o X h1 h2 he)
        clear he
        go_enter Tryd.func3, Tryd.ntmps3
        go_upto_region 1 with fail
        obtain ⟨w0, hw0⟩ : ∃ w0, w.alloc (.cells #[.int .i64 n, .slice ac c.length cc, .slice ao o.length co] 25) = w0 := ⟨_, rfl⟩
        obtain ⟨hb0, c0, c1, c2⟩ := boxP hw0
        rw [hw0]
        have HB0 := hid hb0
        clear hw0 hb0
        go_upto_region 5 with (first
          | (go_at_call 4; refine (HGr.out _ (HC.out.below HB0.out) (HO.out.below HB0.out)).mono ?_; rintro e w1 ⟨rfl, hb1⟩; have HB1 := hid (bel_step HB0.out hb1); have c0 := keeps hb1 c0; have c1 := keeps hb1 c1; have c2 := keeps hb1 c2)
          | (go_at_call 6; refine (HPr.out _ (HC.out.below HB1.out) (HO.out.below HB1.out)).mono ?_; rintro e w2 ⟨rfl, hb2⟩; have HB2 := hid (bel_step HB1.out hb2)))
        go_upto_region 9 with (go_at_call 7; refine (HPs.out _ (HE.out.below HB2.out)).mono ?_; rintro e w6 ⟨vs, vt, rfl, hs1, hs2, hb6⟩; have HB6 := hid (bel_step HB2.out hb6); have HS1 := hid hs1; have HS2 := hid hs2; obtain ⟨as_, cs_, rfl, -⟩ := hs1; obtain ⟨at_, ct_, rfl, -⟩ := hs2; clear hb6)
        (try simp only at HS1 HS2 ⊢)
        obtain ⟨w7, hw7⟩ : ∃ w7, w6.alloc (.cells #[.int .i64 (N : Int), .slice as_ cq.length cs_, .slice at_ oz.length ct_] 25) = w7 := ⟨_, rfl⟩
        obtain ⟨hb7, m0, m1, m2⟩ := boxP hw7
        have HS1 := hid (HS1.out.below hb7)
        have HS2 := hid (HS2.out.below hb7)
        have HB7 := hid (bel_step HB6.out hb7)
        rw [hw7]
        clear hw7 hb7
        go_upto_region 12 with (go_at_call 6; refine (HPq.out _ _ _ HS1.out HS2.out (HE.out.below HB7.out)).mono ?_; rintro e w8 ⟨rfl, hb8⟩; have HB8 := hid (bel_step HB7.out hb8); have m0 := keeps hb8 m0; have m1 := keeps hb8 m1; have m2 := keeps hb8 m2; have HS1 := hid (HS1.out.below hb8); have HS2 := hid (HS2.out.below hb8); clear hb8)
        go_wp2_with (first
          | (go_at_call 9; refine (HCq.out _ _ _ HS1.out HS2.out).mono ?_; rintro e w9 ⟨rfl, hb9⟩; have HB9 := hid (bel_step HB8.out hb9); clear hb9)
          | (go_at_call 5; refine (awake_any _).mono ?_; rintro e wz ⟨rfl, hbz⟩))
        go_ret
        exact ⟨rfl, bel_step HB9.out hbz⟩
  · rw [hg] at HGr
    clear hg
    go_enter Tryd.func3, Tryd.ntmps3
    go_upto_region 1 with fail
    obtain ⟨w0, hw0⟩ : ∃ w0, w.alloc (.cells #[.int .i64 n, .slice ac c.length cc, .slice ao o.length co] 25) = w0 := ⟨_, rfl⟩
    obtain ⟨hb0, c0, c1, c2⟩ := boxP hw0
    rw [hw0]
    have HB0 := hid hb0
    clear hw0 hb0
    go_wp2_with (first
      | (go_at_call 4; refine (HGr.out _ (HC.out.below HB0.out) (HO.out.below HB0.out)).mono ?_; rintro e w1 ⟨rfl, hb1⟩; have HB1 := hid (bel_step HB0.out hb1))
      | (go_at_call 5; refine (awake_any _).mono ?_; rintro e w2 ⟨rfl, hb2⟩))
    go_ret
    exact ⟨rfl, bel_step HB1.out hb2⟩
end Go.Proofs.YtlbamhechkomlaaDoor
