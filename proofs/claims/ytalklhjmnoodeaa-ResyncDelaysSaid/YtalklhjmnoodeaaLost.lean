/-
  resync.Lost: how many words are lost between two words.
  No condition beyond the words lying in a slice.
-/
import Derived.Test.YtalklhjmnoodeaaAwake45
import Derived.Test.YtalklhjmnoodeaaLostLaw
namespace Go.Proofs.Ytalklhjmnoodeaa
open Go.RowKit Go.Deep
set_option linter.unusedVariables false

/-- The words that end in a word, read from the state 0. -/
def emW (ws : List ByteArray) (x : ByteArray) : List Int := emsN (nxN ws) (emI ws) 0 x.data.toList
def LPost (q : Int) (ws : List ByteArray) (x y : ByteArray) (w : World) (e : Ending) (w' : World) : Prop :=
  Below w.heap.size w w' ∧
  ((rErr q ws [x, y] ≠ 0 ∧ e = .returned (.tuple #[.int .i64 0, .int .i64 0, .int .i64 (rErr q ws [x, y])])) ∨
   (rErr q ws [x, y] = 0 ∧ e = .returned (.tuple #[.int .i64 (lostA (emW ws x) (emW ws y) : Nat), .int .i64 (lostB (emW ws x) (emW ws y) : Nat), .int .i64 0])))
theorem wordsErr_two {q : Int} {x y : ByteArray} (h : wordsErr q [x, y] = 0) : wordErr q x = 0 ∧ wordErr q y = 0 := by
  by_cases h1 : wordErr q x = 0
  · rw [wordsErr_good h1] at h; exact ⟨h1, wordsErr_one h⟩
  · rw [wordsErr_bad h1] at h; exact absurd h h1

theorem Sl.zero {w : World} {l : List Int} (hl : l.length = 0) (ao : Option Addr) (c : Nat) (hc : c ≤ 9223372036854775807) : Sl 1 w (.slice ao 0 c) l.length (ints l) :=
  ⟨ao, c, by rw [hl], by rw [ints_len]; simp, by omega, hc, .inl hl⟩
theorem Sl.tail {w : World} {b o c : Nat} {l : List Int} {a : Int} (h : Sl 1 w (.slice (some ⟨b, o, none⟩) (a :: l).length c) (a :: l).length (ints (a :: l))) (ao : Option Addr) (hao : l.length = 0 ∨ ao = some ⟨b, o + 1, none⟩) : Sl 1 w (.slice ao ((a :: l).length - 1) (c - 1)) l.length (ints l) := by
  obtain ⟨ao', c', hv, h1, h2, h3, h4⟩ := h
  simp only [Value.slice.injEq] at hv
  obtain ⟨rfl, _, rfl⟩ := hv
  simp only [List.length_cons] at h2
  refine ⟨ao, c - 1, by simp, by rw [ints_len]; simp, by omega, by omega, ?_⟩
  rcases hao with hz | rfl
  · exact .inl hz
  · rcases h4 with h4 | ⟨b', o', hb, h5⟩
    · simp at h4
    · simp only [Option.some.injEq, Addr.mk.injEq, and_true] at hb
      obtain ⟨rfl, rfl⟩ := hb
      refine .inr ⟨b, o + 1, rfl, fun j x hj => ?_⟩
      have := h5 (j + 1) x (by simpa [ints] using hj)
      rw [show o + 1 + j = o + (j + 1) by omega]; exact this
theorem Sl.init {w : World} {ao : Option Addr} {n c : Nat} {l : List Int} {a : Int} (hn : n = l.length + 1) (h : Sl 1 w (.slice ao n c) n (ints (l ++ [a]))) : Sl 1 w (.slice ao (n - 1) c) l.length (ints l) := by
  obtain ⟨ao', c', hv, h1, h2, h3, h4⟩ := h
  simp only [Value.slice.injEq] at hv
  obtain ⟨rfl, _, rfl⟩ := hv
  refine ⟨ao, c, by rw [hn]; simp, by rw [ints_len]; simp, by omega, h3, ?_⟩
  rcases h4 with h4 | ⟨b', o', hb, h5⟩
  · omega
  · refine .inr ⟨b', o', hb, fun j x hj => h5 j x ?_⟩
    rw [ints_snoc, List.getElem?_append_left (lt_of_some hj)]; exact hj
theorem Sl.lens {w : World} {v : Value} {l : List Int} (h : Sl 1 w v l.length (ints l)) : ∃ ao c, v = .slice ao l.length c ∧ l.length ≤ c ∧ c ≤ 9223372036854775807 := by
  obtain ⟨ao, c, hv, _, h2, h3, _⟩ := h
  exact ⟨ao, c, hv, h2, h3⟩
theorem Sl.first {w : World} {ao : Option Addr} {n c : Nat} {l : List Int} {a : Int} (h : Sl 1 w (.slice ao n c) (a :: l).length (ints (a :: l))) : ∃ b o, ao = some ⟨b, o, none⟩ ∧ w.cell? ⟨b, o, none⟩ = some (.int .i64 a) := by
  obtain ⟨b, o, h1, h2⟩ := h.cell (k := 0) (x := .int .i64 a) rfl
  exact ⟨b, o, h1, h2⟩
theorem Sl.last {w : World} {ao : Option Addr} {n c : Nat} {l : List Int} {a : Int} (hn : n = l.length + 1) (h : Sl 1 w (.slice ao n c) n (ints (l ++ [a]))) : ∃ b o, ao = some ⟨b, o, none⟩ ∧ w.cell? ⟨b, o + (n - 1), none⟩ = some (.int .i64 a) := by
  obtain ⟨b, o, h1, h2⟩ := h.cell (k := l.length) (x := .int .i64 a) (by rw [ints_snoc, List.getElem?_append_right (by rw [ints_len]; exact Nat.le_refl _), ints_len]; simp)
  exact ⟨b, o, h1, by rw [hn]; exact h2⟩

set_option maxRecDepth 100000 in
set_option maxHeartbeats 4000000 in
theorem lost_any (q : Int) (v : Value) (ws : List ByteArray) (x y : ByteArray) (w : World) (hl : Sl 1 w v ws.length (strs ws)) :
    Calls Try.prog 17 #[.agg #[.int .i64 q, v], .string x, .string y] w (LPost q ws x y w) := by
  have HL := hid hl
  have HBd := hid (fun (vx : Value) (X : World) h h2 => rbuild_any q v vx ws [x, y] X h h2)
  obtain ⟨ao, cap, rfl, _, hl1, hl2, hl3⟩ := hl
  clear hl3
  go_enter Try.func17, Try.ntmps17
  go_upto_region 1 with fail
  obtain ⟨w0, hw0⟩ : ∃ w0, w.alloc (.cells #[.int .i64 q, .slice ao ws.length cap] 24) = w0 := ⟨_, rfl⟩
  obtain ⟨hb0, c0, c1⟩ := boxed hw0
  rw [hw0]
  have HB0 := hid hb0
  clear hw0 hb0
  have HSx := hid (fun W : World => lit_words W [x, y] #[.string x, .string y] 2 rfl rfl (by show 2 ≤ 1000; omega))
  by_cases hE : rErr q ws [x, y] = 0
  · obtain ⟨hA, h64, hwx⟩ := rErr_zero hE
    have hm := mach_of hA
    obtain ⟨_, _, hx6, hok⟩ := wordErr_zero.1 (wordsErr_two hwx).1
    obtain ⟨_, _, hy6, hoky⟩ := wordErr_zero.1 (wordsErr_two hwx).2
    obtain ⟨Q, rfl⟩ : ∃ Q : Nat, q = Q := ⟨q.toNat, by have := hm.q2; omega⟩
    have HM := hid hm
    have HE := hid hE
    have HOk := hid (And.intro hok hoky)
    have h00 := hm.pos
    clear hm hok hoky hwx
    go_upto_region 2 with (go_at_call 39; refine (HBd.out _ _ (HL.out.below (bel_step HB0.out (bel_alloc _ _))) (HSx.out _)).mono ?_; rintro e w1 (⟨hne, _⟩ | ⟨_, vS, vN, vE, rfl, hres, hb1⟩); (exact absurd hE hne); have HB1 := hid (bel_step (bel_step HB0.out (bel_alloc _ _)) hb1); obtain ⟨aS, cS, aN, cN, aE, cE, rfl, rfl, rfl⟩ := hres.slices)
    obtain ⟨wp, hwp⟩ : ∃ wp, w1.alloc (.cells #[.int .i64 (Q : Int), .slice aS (sizeW ws) cS, .slice aN (sizeW ws) cN, .slice aE (sizeW ws) cE] 36) = wp := ⟨_, rfl⟩
    obtain ⟨hbp, p0, p1, p2, p3⟩ := boxP hwp
    rw [hwp]
    have HBp := hid (bel_step HB1.out hbp)
    have HPv := hid (((hres.keep hbp).pval (by omega)).nat HM.out)
    clear hwp hbp hb1 hres HBd HSx HL c0 c1 hE
    generalize w1.heap.size = g at *
    have HRun := hid (fun (y : ByteArray) (X : World) h ho hz => prun_any (.slice aS (sizeW ws) cS) (.slice aN (sizeW ws) cN) (.slice aE (sizeW ws) cE) (sizeW ws) Q (stW ws) (nxN ws) (emI ws) 0 y X h HM.out.lt h00 (by omega) ho hz)
    go_upto_region 5 with (go_at_call 40; refine (HRun.out x _ HPv.out HOk.out.1 (by omega)).mono ?_; rintro e w2 ⟨u2, rfl, ho2, hb2⟩; obtain ⟨a2, k2, rfl⟩ := own_slice ho2; have p0 := keeps hb2 p0; have p1 := keeps hb2 p1; have p2 := keeps hb2 p2; have p3 := keeps hb2 p3; have HB2 := hid hb2; have HO2 := hid (Sl.of_owns ho2))
    have HB2f := hid (bel_step HBp.out HB2.out)
    go_upto_region 6 with (go_at_call 40; refine (HRun.out y _ (HPv.out.below HB2.out) HOk.out.2 (by omega)).mono ?_; rintro e w3 ⟨u3, rfl, ho3, hb3⟩; obtain ⟨a3, k3, rfl⟩ := own_slice ho3; have HB3 := hid (bel_step HB2f.out hb3); have HO2 := hid (HO2.out.below hb3); have HO3 := hid (Sl.of_owns ho3); clear hb3 ho3)
    have hl2 := emsN_len (nxN ws) (emI ws) 0 x.data.toList
    have hl3 := emsN_len (nxN ws) (emI ws) 0 y.data.toList
    rw [ba_len] at hl2 hl3
    have HF := hid (show emW ws x = emsN (nxN ws) (emI ws) 0 x.data.toList ∧ emW ws y = emsN (nxN ws) (emI ws) 0 y.data.toList from ⟨rfl, rfl⟩)
    clear ho2 p0 p1 p2 p3 HRun HPv HOk HB2
    generalize hA : emsN (nxN ws) (emI ws) 0 x.data.toList = A at *
    generalize hB : emsN (nxN ws) (emI ws) 0 y.data.toList = B at *
    clear hA hB
    go_loopw [12, 14] (fun va vb wr => ∃ la lb : List Int, Sl 1 wr va la.length (ints la) ∧ Sl 1 wr vb lb.length (ints lb) ∧ Dr w3 wr ∧ Hid (cutHead A B = cutHead la lb)) (fun va _ _ => lenOf va)
    case atStart => exact ⟨A, B, HO2.out, HO3.out, Dr.refl _, hid rfl⟩
    case round =>
      obtain ⟨la, lb, hla, hlb, hD, HC⟩ := hrel
      have HD := hid hD
      have HLA := hid hla
      have HLB := hid hlb
      obtain ⟨a1, k1, rfl, hk1, hk1m⟩ := hla.lens
      obtain ⟨a4, k4, rfl, hk4, hk4m⟩ := hlb.lens
      clear hD
      rcases la with _ | ⟨a, la⟩
      · have HFin : Hid (∃ lc ld : List Int, Sl 1 wr (.slice a1 0 k1) lc.length (ints lc) ∧ Sl 1 wr (.slice a4 lb.length k4) ld.length (ints ld) ∧ cutHead A B = (lc, ld)) := hid ⟨[], lb, hla, hlb, HC.out.trans (cutHead_nil lb)⟩
        simp only [List.length_nil] at *
        clear hla hlb
        go_wp2_with fail
        go_quiet (fail)
        go_wp2_with fail
        clear hk1 hk4 hk1m hk4m
        clear HC
        go_loopw [12, 14] (fun va vb wr => ∃ la lb : List Int, Sl 1 wr va la.length (ints la) ∧ Sl 1 wr vb lb.length (ints lb) ∧ Dr w3 wr ∧ Hid (swp (cutHead A B) = swp (la, lb))) (fun va _ _ => lenOf va)
        case atStart =>
          obtain ⟨la', lb', h1, h2, h3⟩ := HFin.out
          exact ⟨la', lb', h1.dr (Dr.drewN (Dr.refl _) _), h2.dr (Dr.drewN (Dr.refl _) _), HD.out.drewN _, hid (by rw [h3])⟩
        case round =>
          obtain ⟨lc, ld, hlc, hld, hD2, HC2⟩ := hrel
          have HD2 := hid hD2
          have HLC := hid hlc
          have HLD := hid hld
          obtain ⟨a5, k5, rfl, hk5, hk5m⟩ := hlc.lens
          obtain ⟨a6, k6, rfl, hk6, hk6m⟩ := hld.lens
          clear hD2 HFin HLA HLB HD
          rcases List.eq_nil_or_concat lc with rfl | ⟨lc, c, rfl⟩
          · have HE2 := hid (show lostA A B = 0 ∧ lostB A B = ld.length by unfold lostA lostB lostL; rw [HC2.out]; exact swp_nil ld)
            simp only [List.length_nil] at *
            clear hlc hld
            go_wp2_with fail
            go_quiet (fail)
            go_wp2
            go_ret3
            exact ⟨bel_step HB3.out ((HD2.out.drewN _).below _), .inr ⟨HE.out, by rw [HF.out.1, HF.out.2, HE2.out.1, HE2.out.2]; rfl⟩⟩
          · rw [List.concat_eq_append] at *
            have hn5' : (lc ++ [c]).length = lc.length + 1 := by simp
            generalize hn5 : (lc ++ [c]).length = n5 at *
            rcases List.eq_nil_or_concat ld with rfl | ⟨ld, d, rfl⟩
            · have HE2 := hid (show lostA A B = n5 ∧ lostB A B = 0 by unfold lostA lostB lostL; rw [HC2.out]; have h := swp_nil2 (lc ++ [c]); rw [hn5] at h; exact h)
              simp only [List.length_nil] at *
              clear hlc hld
              have h0 : 0 < n5 := by omega
              clear hn5 hn5'
              go_wp2_with fail
              go_quiet (fail)
              go_wp2
              go_ret3
              exact ⟨bel_step HB3.out ((HD2.out.drewN _).below _), .inr ⟨HE.out, by rw [HF.out.1, HF.out.2, HE2.out.1, HE2.out.2]; rfl⟩⟩
            · rw [List.concat_eq_append] at *
              have hn6' : (ld ++ [d]).length = ld.length + 1 := by simp
              generalize hn6 : (ld ++ [d]).length = n6 at *
              have f1 : IntKind.i64.wrap ((n5 : Int) - 1) = (n5 : Int) - 1 := IntWalk.i64_in _ (by omega)
              have f2 : (0 : Int) ≤ (n5 : Int) - 1 := by omega
              have f3 : (n5 : Int) - 1 < n5 := by omega
              have f4 : ((n5 : Int) - 1).toNat = n5 - 1 := by omega
              have f5 : (1 : Int) ≤ (n5 : Int) := by omega
              have f6 : (n5 : Int) - 1 ≤ (k5 : Int) := by omega
              have f7 : 0 < n5 := by omega
              have g1 : IntKind.i64.wrap ((n6 : Int) - 1) = (n6 : Int) - 1 := IntWalk.i64_in _ (by omega)
              have g2 : (0 : Int) ≤ (n6 : Int) - 1 := by omega
              have g3 : (n6 : Int) - 1 < n6 := by omega
              have g4 : ((n6 : Int) - 1).toNat = n6 - 1 := by omega
              have g5 : (1 : Int) ≤ (n6 : Int) := by omega
              have g6 : (n6 : Int) - 1 ≤ (k6 : Int) := by omega
              have g7 : 0 < n6 := by omega
              have HI5 := hid (Sl.init hn5' hlc)
              have HI6 := hid (Sl.init hn6' hld)
              obtain ⟨b5, o5, rfl, m5⟩ := Sl.last hn5' hlc
              obtain ⟨b6, o6, rfl, m6⟩ := Sl.last hn6' hld
              have HN := hid (And.intro hn5 hn6)
              clear hlc hld hn5 hn6 hn5' hn6'
              by_cases hcd : c = d
              · have hb : (c == d) = true := by simp [hcd]
                have HS := hid (show swp (cutHead A B) = swp (lc, ld) by rw [HC2.out, hcd]; exact swp_last)
                clear hcd
                go_wp2_with fail
                go_quiet (fail)
                go_wp2_with fail
                go_quiet (fail)
                clear f1 f4 g1 g4
                go_wp2
                go_roundw
                case rel => exact ⟨lc, ld, HI5.out.dr (((Dr.refl _).drewN _).drewN _), HI6.out.dr (((Dr.refl _).drewN _).drewN _), (HD2.out.drewN _).drewN _, HS⟩
                case measure => simp [lenOf]; omega
              · have hb : (c == d) = false := by simp [hcd]
                have HE2 := hid (show lostA A B = n5 ∧ lostB A B = n6 by unfold lostA lostB lostL; rw [HC2.out]; have h := swp_ne (l := lc) (r := ld) hcd; rw [HN.out.1, HN.out.2] at h; exact h)
                clear hcd
                go_wp2_with fail
                go_quiet (fail)
                clear f1 f4 g1 g4
                go_wp2
                go_ret3
                exact ⟨bel_step HB3.out ((HD2.out.drewN _).below _), .inr ⟨HE.out, by rw [HF.out.1, HF.out.2, HE2.out.1, HE2.out.2]; rfl⟩⟩
      · rcases lb with _ | ⟨b, lb⟩
        · obtain ⟨g1, o1, rfl, n1⟩ := hla.first
          have HFin : Hid (∃ lc ld : List Int, Sl 1 wr (.slice (some ⟨g1, o1, none⟩) (la.length + 1) k1) lc.length (ints lc) ∧ Sl 1 wr (.slice a4 0 k4) ld.length (ints ld) ∧ cutHead A B = (lc, ld)) := hid ⟨a :: la, [], hla, hlb, HC.out.trans (cutHead_nil2 (a :: la))⟩
          have hn0 : (a :: la).length = la.length + 1 := rfl
          rw [hn0] at *
          simp only [List.length_nil] at *
          clear hla hlb hn0
          go_wp2_with fail
          go_quiet (fail)
          go_wp2_with fail
          clear hk1 hk4 hk1m hk4m
          clear HC n1
          go_loopw [12, 14] (fun va vb wr => ∃ la lb : List Int, Sl 1 wr va la.length (ints la) ∧ Sl 1 wr vb lb.length (ints lb) ∧ Dr w3 wr ∧ Hid (swp (cutHead A B) = swp (la, lb))) (fun va _ _ => lenOf va)
          case atStart =>
            obtain ⟨la', lb', h1, h2, h3⟩ := HFin.out
            exact ⟨la', lb', h1.dr (Dr.drewN (Dr.refl _) _), h2.dr (Dr.drewN (Dr.refl _) _), HD.out.drewN _, hid (by rw [h3])⟩
          case round =>
            obtain ⟨lc, ld, hlc, hld, hD2, HC2⟩ := hrel
            have HD2 := hid hD2
            have HLC := hid hlc
            have HLD := hid hld
            obtain ⟨a5, k5, rfl, hk5, hk5m⟩ := hlc.lens
            obtain ⟨a6, k6, rfl, hk6, hk6m⟩ := hld.lens
            clear hD2 HFin HLA HLB HD
            rcases List.eq_nil_or_concat lc with rfl | ⟨lc, c, rfl⟩
            · have HE2 := hid (show lostA A B = 0 ∧ lostB A B = ld.length by unfold lostA lostB lostL; rw [HC2.out]; exact swp_nil ld)
              simp only [List.length_nil] at *
              clear hlc hld
              go_wp2_with fail
              go_quiet (fail)
              go_wp2
              go_ret3
              exact ⟨bel_step HB3.out ((HD2.out.drewN _).below _), .inr ⟨HE.out, by rw [HF.out.1, HF.out.2, HE2.out.1, HE2.out.2]; rfl⟩⟩
            · rw [List.concat_eq_append] at *
              have hn5' : (lc ++ [c]).length = lc.length + 1 := by simp
              generalize hn5 : (lc ++ [c]).length = n5 at *
              rcases List.eq_nil_or_concat ld with rfl | ⟨ld, d, rfl⟩
              · have HE2 := hid (show lostA A B = n5 ∧ lostB A B = 0 by unfold lostA lostB lostL; rw [HC2.out]; have h := swp_nil2 (lc ++ [c]); rw [hn5] at h; exact h)
                simp only [List.length_nil] at *
                clear hlc hld
                have h0 : 0 < n5 := by omega
                clear hn5 hn5'
                go_wp2_with fail
                go_quiet (fail)
                go_wp2
                go_ret3
                exact ⟨bel_step HB3.out ((HD2.out.drewN _).below _), .inr ⟨HE.out, by rw [HF.out.1, HF.out.2, HE2.out.1, HE2.out.2]; rfl⟩⟩
              · rw [List.concat_eq_append] at *
                have hn6' : (ld ++ [d]).length = ld.length + 1 := by simp
                generalize hn6 : (ld ++ [d]).length = n6 at *
                have f1 : IntKind.i64.wrap ((n5 : Int) - 1) = (n5 : Int) - 1 := IntWalk.i64_in _ (by omega)
                have f2 : (0 : Int) ≤ (n5 : Int) - 1 := by omega
                have f3 : (n5 : Int) - 1 < n5 := by omega
                have f4 : ((n5 : Int) - 1).toNat = n5 - 1 := by omega
                have f5 : (1 : Int) ≤ (n5 : Int) := by omega
                have f6 : (n5 : Int) - 1 ≤ (k5 : Int) := by omega
                have f7 : 0 < n5 := by omega
                have g1 : IntKind.i64.wrap ((n6 : Int) - 1) = (n6 : Int) - 1 := IntWalk.i64_in _ (by omega)
                have g2 : (0 : Int) ≤ (n6 : Int) - 1 := by omega
                have g3 : (n6 : Int) - 1 < n6 := by omega
                have g4 : ((n6 : Int) - 1).toNat = n6 - 1 := by omega
                have g5 : (1 : Int) ≤ (n6 : Int) := by omega
                have g6 : (n6 : Int) - 1 ≤ (k6 : Int) := by omega
                have g7 : 0 < n6 := by omega
                have HI5 := hid (Sl.init hn5' hlc)
                have HI6 := hid (Sl.init hn6' hld)
                obtain ⟨b5, o5, rfl, m5⟩ := Sl.last hn5' hlc
                obtain ⟨b6, o6, rfl, m6⟩ := Sl.last hn6' hld
                have HN := hid (And.intro hn5 hn6)
                clear hlc hld hn5 hn6 hn5' hn6'
                by_cases hcd : c = d
                · have hb : (c == d) = true := by simp [hcd]
                  have HS := hid (show swp (cutHead A B) = swp (lc, ld) by rw [HC2.out, hcd]; exact swp_last)
                  clear hcd
                  go_wp2_with fail
                  go_quiet (fail)
                  go_wp2_with fail
                  go_quiet (fail)
                  clear f1 f4 g1 g4
                  go_wp2
                  go_roundw
                  case rel => exact ⟨lc, ld, HI5.out.dr (((Dr.refl _).drewN _).drewN _), HI6.out.dr (((Dr.refl _).drewN _).drewN _), (HD2.out.drewN _).drewN _, HS⟩
                  case measure => simp [lenOf]; omega
                · have hb : (c == d) = false := by simp [hcd]
                  have HE2 := hid (show lostA A B = n5 ∧ lostB A B = n6 by unfold lostA lostB lostL; rw [HC2.out]; have h := swp_ne (l := lc) (r := ld) hcd; rw [HN.out.1, HN.out.2] at h; exact h)
                  clear hcd
                  go_wp2_with fail
                  go_quiet (fail)
                  clear f1 f4 g1 g4
                  go_wp2
                  go_ret3
                  exact ⟨bel_step HB3.out ((HD2.out.drewN _).below _), .inr ⟨HE.out, by rw [HF.out.1, HF.out.2, HE2.out.1, HE2.out.2]; rfl⟩⟩
        · obtain ⟨g1, o1, rfl, n1⟩ := hla.first
          obtain ⟨g4, o4, rfl, n4⟩ := hlb.first
          by_cases hab : a = b
          · have HT1 := hid (fun ao h => Sl.tail hla ao h)
            have HT4 := hid (fun ao h => Sl.tail hlb ao h)
            have HE2 := hid (show cutHead A B = cutHead la lb by rw [HC.out, hab]; exact cutHead_eq)
            have hb : (a == b) = true := by simp [hab]
            simp only [List.length_cons] at *
            clear hla hlb hab HC
            by_cases h1 : k1 = 1
            · subst h1
              have hz1 : la.length = 0 := by omega
              have HZ1 := hid hz1
              clear hz1
              by_cases h4 : k4 = 1
              · subst h4
                have HZ4 := hid (show lb.length = 0 by omega)
                go_wp2_with fail
                go_quiet (fail)
                go_wp2_with fail
                go_quiet (fail)
                go_wp2
                go_roundw
                case rel => exact ⟨la, lb, (by first | exact Sl.zero HZ1.out _ _ (by omega) | exact (HT1.out _ (.inr rfl)).dr (((Dr.refl _).drewN _).drewN _)), (by first | exact Sl.zero HZ4.out _ _ (by omega) | exact (HT4.out _ (.inr rfl)).dr (((Dr.refl _).drewN _).drewN _)), (HD.out.drewN _).drewN _, HE2⟩
                case measure => simp [lenOf]
              · go_wp2_with fail
                go_quiet (fail)
                go_wp2_with fail
                go_quiet (fail)
                go_wp2
                go_roundw
                case rel => exact ⟨la, lb, (by first | exact Sl.zero HZ1.out _ _ (by omega) | exact (HT1.out _ (.inr rfl)).dr (((Dr.refl _).drewN _).drewN _)), (by first | exact Sl.zero HZ4.out _ _ (by omega) | exact (HT4.out _ (.inr rfl)).dr (((Dr.refl _).drewN _).drewN _)), (HD.out.drewN _).drewN _, HE2⟩
                case measure => simp [lenOf]
            · by_cases h4 : k4 = 1
              · subst h4
                have HZ4 := hid (show lb.length = 0 by omega)
                go_wp2_with fail
                go_quiet (fail)
                go_wp2_with fail
                go_quiet (fail)
                go_wp2
                go_roundw
                case rel => exact ⟨la, lb, (by first | exact Sl.zero HZ1.out _ _ (by omega) | exact (HT1.out _ (.inr rfl)).dr (((Dr.refl _).drewN _).drewN _)), (by first | exact Sl.zero HZ4.out _ _ (by omega) | exact (HT4.out _ (.inr rfl)).dr (((Dr.refl _).drewN _).drewN _)), (HD.out.drewN _).drewN _, HE2⟩
                case measure => simp [lenOf]
              · go_wp2_with fail
                go_quiet (fail)
                go_wp2_with fail
                go_quiet (fail)
                go_wp2
                go_roundw
                case rel => exact ⟨la, lb, (by first | exact Sl.zero HZ1.out _ _ (by omega) | exact (HT1.out _ (.inr rfl)).dr (((Dr.refl _).drewN _).drewN _)), (by first | exact Sl.zero HZ4.out _ _ (by omega) | exact (HT4.out _ (.inr rfl)).dr (((Dr.refl _).drewN _).drewN _)), (HD.out.drewN _).drewN _, HE2⟩
                case measure => simp [lenOf]
          · have HFin : Hid (∃ lc ld : List Int, Sl 1 wr (.slice (some ⟨g1, o1, none⟩) (la.length + 1) k1) lc.length (ints lc) ∧ Sl 1 wr (.slice (some ⟨g4, o4, none⟩) (lb.length + 1) k4) ld.length (ints ld) ∧ cutHead A B = (lc, ld)) := hid ⟨a :: la, b :: lb, hla, hlb, HC.out.trans (cutHead_ne hab)⟩
            have hb : (a == b) = false := by simp [hab]
            have hn0 : (a :: la).length = la.length + 1 := rfl
            have hn1 : (b :: lb).length = lb.length + 1 := rfl
            rw [hn0, hn1] at *
            clear hla hlb hab hn0 hn1
            go_wp2_with fail
            go_quiet (fail)
            go_wp2_with fail
            clear hk1 hk4 hk1m hk4m
            clear HC n1 n4 hb
            go_loopw [12, 14] (fun va vb wr => ∃ la lb : List Int, Sl 1 wr va la.length (ints la) ∧ Sl 1 wr vb lb.length (ints lb) ∧ Dr w3 wr ∧ Hid (swp (cutHead A B) = swp (la, lb))) (fun va _ _ => lenOf va)
            case atStart =>
              obtain ⟨la', lb', h1, h2, h3⟩ := HFin.out
              exact ⟨la', lb', h1.dr (Dr.drewN (Dr.refl _) _), h2.dr (Dr.drewN (Dr.refl _) _), HD.out.drewN _, hid (by rw [h3])⟩
            case round =>
              obtain ⟨lc, ld, hlc, hld, hD2, HC2⟩ := hrel
              have HD2 := hid hD2
              have HLC := hid hlc
              have HLD := hid hld
              obtain ⟨a5, k5, rfl, hk5, hk5m⟩ := hlc.lens
              obtain ⟨a6, k6, rfl, hk6, hk6m⟩ := hld.lens
              clear hD2 HFin HLA HLB HD
              rcases List.eq_nil_or_concat lc with rfl | ⟨lc, c, rfl⟩
              · have HE2 := hid (show lostA A B = 0 ∧ lostB A B = ld.length by unfold lostA lostB lostL; rw [HC2.out]; exact swp_nil ld)
                simp only [List.length_nil] at *
                clear hlc hld
                go_wp2_with fail
                go_quiet (fail)
                go_wp2
                go_ret3
                exact ⟨bel_step HB3.out ((HD2.out.drewN _).below _), .inr ⟨HE.out, by rw [HF.out.1, HF.out.2, HE2.out.1, HE2.out.2]; rfl⟩⟩
              · rw [List.concat_eq_append] at *
                have hn5' : (lc ++ [c]).length = lc.length + 1 := by simp
                generalize hn5 : (lc ++ [c]).length = n5 at *
                rcases List.eq_nil_or_concat ld with rfl | ⟨ld, d, rfl⟩
                · have HE2 := hid (show lostA A B = n5 ∧ lostB A B = 0 by unfold lostA lostB lostL; rw [HC2.out]; have h := swp_nil2 (lc ++ [c]); rw [hn5] at h; exact h)
                  simp only [List.length_nil] at *
                  clear hlc hld
                  have h0 : 0 < n5 := by omega
                  clear hn5 hn5'
                  go_wp2_with fail
                  go_quiet (fail)
                  go_wp2
                  go_ret3
                  exact ⟨bel_step HB3.out ((HD2.out.drewN _).below _), .inr ⟨HE.out, by rw [HF.out.1, HF.out.2, HE2.out.1, HE2.out.2]; rfl⟩⟩
                · rw [List.concat_eq_append] at *
                  have hn6' : (ld ++ [d]).length = ld.length + 1 := by simp
                  generalize hn6 : (ld ++ [d]).length = n6 at *
                  have f1 : IntKind.i64.wrap ((n5 : Int) - 1) = (n5 : Int) - 1 := IntWalk.i64_in _ (by omega)
                  have f2 : (0 : Int) ≤ (n5 : Int) - 1 := by omega
                  have f3 : (n5 : Int) - 1 < n5 := by omega
                  have f4 : ((n5 : Int) - 1).toNat = n5 - 1 := by omega
                  have f5 : (1 : Int) ≤ (n5 : Int) := by omega
                  have f6 : (n5 : Int) - 1 ≤ (k5 : Int) := by omega
                  have f7 : 0 < n5 := by omega
                  have g1 : IntKind.i64.wrap ((n6 : Int) - 1) = (n6 : Int) - 1 := IntWalk.i64_in _ (by omega)
                  have g2 : (0 : Int) ≤ (n6 : Int) - 1 := by omega
                  have g3 : (n6 : Int) - 1 < n6 := by omega
                  have g4 : ((n6 : Int) - 1).toNat = n6 - 1 := by omega
                  have g5 : (1 : Int) ≤ (n6 : Int) := by omega
                  have g6 : (n6 : Int) - 1 ≤ (k6 : Int) := by omega
                  have g7 : 0 < n6 := by omega
                  have HI5 := hid (Sl.init hn5' hlc)
                  have HI6 := hid (Sl.init hn6' hld)
                  obtain ⟨b5, o5, rfl, m5⟩ := Sl.last hn5' hlc
                  obtain ⟨b6, o6, rfl, m6⟩ := Sl.last hn6' hld
                  have HN := hid (And.intro hn5 hn6)
                  clear hlc hld hn5 hn6 hn5' hn6'
                  by_cases hcd : c = d
                  · have hb : (c == d) = true := by simp [hcd]
                    have HS := hid (show swp (cutHead A B) = swp (lc, ld) by rw [HC2.out, hcd]; exact swp_last)
                    clear hcd
                    go_wp2_with fail
                    go_quiet (fail)
                    go_wp2_with fail
                    go_quiet (fail)
                    clear f1 f4 g1 g4
                    go_wp2
                    go_roundw
                    case rel => exact ⟨lc, ld, HI5.out.dr (((Dr.refl _).drewN _).drewN _), HI6.out.dr (((Dr.refl _).drewN _).drewN _), (HD2.out.drewN _).drewN _, HS⟩
                    case measure => simp [lenOf]; omega
                  · have hb : (c == d) = false := by simp [hcd]
                    have HE2 := hid (show lostA A B = n5 ∧ lostB A B = n6 by unfold lostA lostB lostL; rw [HC2.out]; have h := swp_ne (l := lc) (r := ld) hcd; rw [HN.out.1, HN.out.2] at h; exact h)
                    clear hcd
                    go_wp2_with fail
                    go_quiet (fail)
                    clear f1 f4 g1 g4
                    go_wp2
                    go_ret3
                    exact ⟨bel_step HB3.out ((HD2.out.drewN _).below _), .inr ⟨HE.out, by rw [HF.out.1, HF.out.2, HE2.out.1, HE2.out.2]; rfl⟩⟩
  · have hE2 : (rErr q ws [x, y] != 0) = true := by simp [hE]
    go_wp2_with (go_at_call 39; refine (HBd.out _ _ (HL.out.below (bel_step HB0.out (bel_alloc _ _))) (HSx.out _)).mono ?_; rintro e w1 (⟨_, rfl, hb1⟩ | ⟨h0, _⟩); rotate_left; (exact absurd h0 hE); unfold nilP; have HB1 := hid (bel_step (bel_step HB0.out (bel_alloc _ _)) hb1))
    go_ret3
    exact ⟨bel_step HB1.out (bel_alloc _ _), .inl ⟨hE, rfl⟩⟩
end Go.Proofs.Ytalklhjmnoodeaa
