/-
  parser.Check at a parser that was built from a code.
  The parser's rows lie in memory; the code is a valid prefix code.
-/
import Derived.Test.YtalklhjmnoodeaaParSame
import Derived.Test.YtalklhjmnoodeaaGatLaw
import Derived.Test.YtalklhjmnoodeaaPBuild
namespace Go.Proofs.Ytalklhjmnoodeaa
open Go.RowKit Go.Sort Go.Deep
set_option linter.unusedVariables false

def cfun (q : Int) (u : Value) : Nat → Value
  | 0 => .int .i64 q
  | _ => u
/-- A code that is gathered: its block is the first new one. -/
structure CW (w0 : World) (q : Int) (L : List ByteArray) (u : Value) (wr : World) : Prop where
  bel : Below w0.heap.size w0 wr
  c : wr.rowIs w0.heap.size 24 2 (cfun q u)
  o : wr.ownsRow (w0.heap.size + 1) 9 1 u L.length (strs L)
section
variable {w0 : World} {q : Int} {L L' : List ByteArray} {u u' : Value} {wr w' : World}
theorem CW.start (w0 : World) (q : Int) : CW w0 q [] (.slice none 0 0) (w0.alloc (.cells #[.int .i64 q, .slice none 0 0] 24)) := by
  refine ⟨bel_alloc _ _, World.rowIs_alloc _ _ _ _ ?_, World.ownsRow_nil _ _ _ _⟩
  intro i hi
  have hi' : i < 2 := hi
  have : i = 0 ∨ i = 1 := by omega
  rcases this with rfl | rfl <;> rfl
theorem CW.hi (h : CW w0 q L u wr) : w0.heap.size + 1 ≤ wr.heap.size := by have := h.c.lt; omega
theorem CW.keep (h : CW w0 q L u wr) (hb : Below wr.heap.size wr w') : CW w0 q L u w' := ⟨h.bel.trans (hb.mono h.bel.size), row_below h.c hb, own_below h.o hb⟩
theorem CW.cells (h : CW w0 q L u wr) : wr.cell? ⟨w0.heap.size, 0, none⟩ = some (.int .i64 q) ∧ wr.cell? ⟨w0.heap.size, 1, none⟩ = some u := ⟨h.c.cell (i := 0) (by omega), h.c.cell (i := 1) (by omega)⟩
/-- Behind an append to the words and the store of the new slice. -/
theorem CW.push (h : CW w0 q L u wr) (hg : wr.grownBy w' u.ownBlock) (ho : w'.ownsRow (w0.heap.size + 1) 9 1 u' L'.length (strs L')) : CW w0 q L' u' (w'.setCell ⟨w0.heap.size, 1, none⟩ u') := by
  have hp : w'.rowIs w0.heap.size 24 2 (cfun q u) := row_grown h.c hg (row_ne_low h.o (by omega))
  refine ⟨(h.bel.grown hg h.bel.size fun k hk => ?_).setCell (by show w0.heap.size ≤ w0.heap.size; omega) _, (hp.set 1 u').congr ?_, ownsRow_setCell_below ho (by show w0.heap.size < _; omega) _⟩
  · have := (own_block h.o hk).1; omega
  · intro i hi
    have : i = 0 ∨ i = 1 := by omega
    rcases this with rfl | rfl <;> rfl
end
theorem run_cat (s t z : ByteArray) (h : s ++ t = z) (hs : s.size + t.size ≤ 1000000) (X : World) : (Op.stringOp .add s t).run Try.prog X = .ok (.string z) X := by
  have h2 : ¬ ((s.size + t.size : Nat) : Int) > IntKind.i64.max := by show ¬ ((s.size + t.size : Nat) : Int) > 9223372036854775807; omega
  unfold Op.stringOp
  simp only [if_neg h2, h]
  rfl

set_option maxRecDepth 100000 in
set_option maxHeartbeats 4000000 in
theorem pcheck_any (q : Nat) (ws : List ByteArray) (vS vN vE : Value) (w : World) (hP : PVal w vS vN vE (sizeW ws) q (stW ws) (nxI ws) (emI ws)) (hg : goodB q ws = true) :
    Calls Try.prog 69 #[.agg #[.int .i64 (q : Int), vS, vN, vE]] w fun e w' => e = .returned (.int .i64 0) ∧ Below w.heap.size w w' := by
  obtain ⟨hE, hfree⟩ := goodB_iff.1 hg
  have hv := codeErr_zero hE
  have HV := hid hv
  have hq16 := hv.q16
  have hq2 := hv.q2
  obtain ⟨aS, cS, rfl, _, hS1, hS2, _⟩ := id hP.s
  obtain ⟨aN, cN, rfl, hcN, hcN2⟩ := hP.nx.slice
  obtain ⟨aE, cE, rfl, hcE, hcE2⟩ := hP.em.slice
  have HP := hid hP
  have HG := hid hg
  have HEr := hid hE
  clear hP hg hE hfree hv
  go_enter Try.func69, Try.ntmps69
  go_upto_region 1 with fail
  obtain ⟨w0, hw0⟩ : ∃ w0, w.alloc (.cells #[.int .i64 (q : Int), .slice aS (sizeW ws) cS, .slice aN (sizeW ws) cN, .slice aE (sizeW ws) cE] 36) = w0 := ⟨_, rfl⟩
  obtain ⟨hb0, p0, p1, p2, p3⟩ := boxP hw0
  rw [hw0]
  have HB0 := hid hb0
  have HP0 := hid (HP.out.below hb0)
  have hle := hb0.size
  clear hw0 hb0 HP
  generalize hBe : w.heap.size = B at *
  have HBe := hid hBe
  clear hBe
  go_upto_region 4 with fail
  have hC := CW.start w0 (q : Int)
  obtain ⟨w1, hw1⟩ : ∃ w1, w0.alloc (.cells #[.int .i64 (q : Int), .slice none 0 0] 24) = w1 := ⟨_, rfl⟩
  rw [hw1] at hC ⊢
  have HPc := hid (And.intro p0 (And.intro p1 (And.intro p2 p3)))
  have p0 := keeps hC.bel p0
  have p1 := keeps hC.bel p1
  have p2 := keeps hC.bel p2
  have p3 := keeps hC.bel p3
  have HC := hid hC
  clear hw1 hC
  go_upto_region 5 with fail
  go_loopw [41] (fun i wr => ∃ s : Nat, s ≤ sizeW ws ∧ i = .int .i64 s ∧ ∃ u, CW w0 q (gatG ws q s) u wr) (fun i _ => sizeW ws - (intOf i).toNat)
  case atStart => exact ⟨0, Nat.zero_le _, rfl, _, HC.out⟩
  case round =>
    obtain ⟨s, hs, rfl, u, hC⟩ := hrel
    by_cases hlt : s < sizeW ws
    · obtain ⟨x, hx⟩ := some_of_lt (l := stW ws) (k := s) hlt
      have HCs := hid hC
      have hbel := hC.bel
      have p0 := keeps hbel HPc.out.1
      have p1 := keeps hbel HPc.out.2.1
      have p2 := keeps hbel HPc.out.2.2.1
      have p3 := keeps hbel HPc.out.2.2.2
      have HPr := hid (HP0.out.below hbel)
      obtain ⟨b1, o1, rfl, cx⟩ := HPr.out.s.cell (strs_get hx)
      obtain ⟨b2, o2, r2, k2, rfl, cn, _⟩ := HPr.out.nx.row hlt
      obtain ⟨b3, o3, r3, k3, rfl, ce, se⟩ := HP0.out.em.row hlt
      have ce := keeps hbel ce
      have HSe := hid se
      have hx32 := stW_small HV.out (List.mem_of_getElem? hx)
      obtain ⟨a0, c0, hu, hl0, hc0⟩ : ∃ ao c, u = .slice ao (gatG ws q s).length c ∧ (gatG ws q s).length ≤ c ∧ c ≤ 9223372036854775807 := by
        obtain ⟨ao, c, hv, _, h2, h3, _⟩ := Sl.of_owns hC.o
        exact ⟨ao, c, hv, h2, h3⟩
      subst hu
      have d0 := hC.cells.2
      have hg64 := gat_len0 HV.out hs
      have hgd : (stW ws).getD s default = x := by rw [List.getD_eq_getElem?_getD, hx]; rfl
      have HX := hid (And.intro hx hgd)
      have h32 : decide ((32 : Int) ≤ (x.size : Int)) = false := by simp; omega
      have h64 : decide ((64 : Int) < ((gatG ws q s).length : Int)) = false := by simp; omega
      clear hC hbel hx hgd
      go_upto_region 7 with fail
      go_quiet (fail)
      go_upto_region 10 with fail
      have HCq := hid (HCs.out.keep (((Dr.refl wr).drewN nq).below _))
      clear p0 p1 p2 p3 cx cn ce se d0 h32 h64 HCs HPr
      generalize wr.drewN nq = wq at *
      go_loopw [83] (fun i w2 => ∃ a : Nat, a ≤ q ∧ i = .int .i64 a ∧ ∃ u', CW w0 q (gatG ws q s ++ rowG ws s a) u' w2) (fun i _ => q - (intOf i).toNat)
      case atStart => exact ⟨0, Nat.zero_le _, rfl, _, by rw [rowG, List.append_nil]; exact HCq.out⟩
      case round =>
        obtain ⟨a, ha, rfl, u, hC⟩ := hrel
        by_cases hla : a < q
        · have HCa := hid hC
          have hbel := hC.bel
          obtain ⟨b4, o4, rfl, ce⟩ := (HSe.out.below hbel).cell (rowV_get (emI ws s) hla)
          have hhi := hC.hi
          by_cases hem : 0 ≤ emI ws s a
          · have HRG := hid (rowG_yes hem)
            rw [HX.out.2] at HRG
            have hlen := gat_len HV.out hlt ha
            have hla2 := letter_at (a := a) (by omega)
            obtain ⟨z, hz⟩ : ∃ z, x ++ letW a = z := ⟨_, rfl⟩
            have hls := letW_size a
            have hcat := run_cat x (letW a) z hz (by omega)
            have hw1 : IntKind.i64.wrap ((a : Int) + 1) = (a : Int) + 1 := by rw [IntKind.wrap_i64]; omega
            have hw2 : (0 : Int) ≤ (a : Int) + 1 := by omega
            have hw3 : (a : Int) + 1 ≤ 16 := by omega
            have hw4 : (0 : Int) ≤ (a : Int) := by omega
            have hw5 : (a : Int) ≤ (a : Int) + 1 := by omega
            have hw6 : ((a : Int) + 1).toNat = a + 1 := by omega
            rw [hz] at HRG
            clear hz
            generalize letW a = la at *
            generalize emI ws s a = E at *
            generalize hDg : gatG ws q s ++ rowG ws s a = D at *
            have HDg := hid hDg
            have c5 := hC.cells.2
            have c6 : (wr.alloc (.cells #[.string z] 9)).cell? ⟨w0.heap.size, 1, none⟩ = some u := keeps (bel_alloc _ _) c5
            have c7 : (wr.alloc (.cells #[.string z] 9)).drew.cell? ⟨w0.heap.size, 1, none⟩ = some u := keeps (bel_alloc _ _) c5
            have c8 : wr.drew.cell? ⟨w0.heap.size, 1, none⟩ = some u := c5
            have hne5 : ¬ w0.heap.size = wr.heap.size := by omega
            clear hC hDg
            go_upto_region 13 with fail
            clear ce
            go_region_law ((refine step_push (by rfl) _ _ 22 (by rfl) (w0.heap.size + 1) 9 (.string ⟨#[]⟩) 1 16 Try.underlying22 Try.infoString rfl (by decide) u D.length (strs D) (by rfl) (own_below HCa.out.o (below_now ⟨rfl, rfl, rfl⟩ (.inr ⟨_, rfl⟩))) wr.heap.size #[.string z] rfl (oneCell_string _) (by rfl) (heap_alloc_new _ _) (by unfold maxLen; omega) (by omega) (by simp; omega) ?_; intro g gc w3 hown3 hg3 hb3; have hp3 := row_grown (w := (wr.alloc (.cells #[.string z] 9)).drew) (row_below HCa.out.c (below_now ⟨rfl, rfl, rfl⟩ (.inr ⟨_, rfl⟩))) hg3 (row_ne_low HCa.out.o (by omega)); have k1 := hp3.cell (i := 1) (by omega); have kf := hp3.frozen 1))
            all_goals
              have HP3 := hid (show CW w0 q (D ++ [z]) (.slice (some ⟨g, 0, none⟩) (D.length + 1) gc) (w3.setCell ⟨w0.heap.size, 1, none⟩ (.slice (some ⟨g, 0, none⟩) (D.length + 1) gc)) from
                (HCa.out.keep (below_now ⟨rfl, rfl, rfl⟩ (.inr ⟨_, rfl⟩) : Below wr.heap.size wr (wr.alloc (.cells #[.string z] 9)).drew)).push hg3 (by rw [List.length_append, strs_snoc]; exact hown3))
              clear hp3 k1 kf hg3 hb3 hown3 c5 c6 c7 c8
              go_wp2
              go_roundw
              case rel => exact ⟨a + 1, by omega, by go_num, _, by rw [HRG.out, ← List.append_assoc, HDg.out]; exact HP3.out⟩
              case measure => simp [intOf]; omega
          · have HRG := hid (rowG_no hem)
            generalize emI ws s a = E at *
            clear hC
            go_wp2
            go_roundw
            case rel => exact ⟨a + 1, by omega, by go_num, u, by rw [HRG.out]; exact HCa.out⟩
            case measure => simp [intOf]; omega
        · have e : a = q := by omega
          subst e
          have HCa := hid hC
          clear hC
          go_wp2
          go_roundw
          case rel => exact ⟨s + 1, by omega, by go_num, u, HCa.out⟩
          case measure => simp [intOf]; omega
    · have e : s = sizeW ws := by omega
      subst e
      have HCs := hid hC
      have hbel := hC.bel
      have p0 := keeps hbel HPc.out.1
      have d0 := hC.cells.1
      have d1 := hC.cells.2
      have hf0 := hC.c.frozen 0
      have hf1 := hC.c.frozen 1
      have hhi := hC.hi
      have HSg := hid (show (gatG ws q (sizeW ws)).length ≤ 100000 ∧ (gatG ws q (sizeW ws)).Nodup ∧ sortW (gatG ws q (sizeW ws)) = ws from ⟨by have := gat_len0 HV.out (Nat.le_refl (sizeW ws)); omega, nodup_gatG ws (by omega) (Nat.le_refl _), gat_sort HV.out⟩)
      have HMk := hid (cmake_any _ (q : Int) u _ ws wr hC.o HSg.out.1 HSg.out.2.1 HSg.out.2.2 HEr.out)
      obtain ⟨a0, c0, rfl⟩ := own_slice hC.o
      have HPf := hid (fun v X h => pprefix_any (q : Int) v ws X h)
      rw [HG.out] at HPf
      have HBu := hid (fun v X h => pbuild_any q v ws X h HV.out)
      clear hC
      generalize gatG ws q (sizeW ws) = D at *
      go_upto_region 17 with (go_at_call 93; refine HMk.out.mono ?_; rintro e w2 ⟨u', rfl, ho2, hb2⟩; obtain ⟨a1, c1, rfl⟩ := own_slice ho2; have d0 := keeps hb2 d0; have d1 := keeps hb2 d1; have hf0 := (hb2.frozen (p := ⟨w0.heap.size, 0, none⟩) (by show w0.heap.size < _; omega)).trans hf0; have hf1 := (hb2.frozen (p := ⟨w0.heap.size, 1, none⟩) (by show w0.heap.size < _; omega)).trans hf1)
      have hbS := ((hbel.trans (hb2.mono hbel.size)).setCell (p := ⟨w0.heap.size, 0, none⟩) (Nat.le_refl _) (.int .i64 (q : Int))).setCell (p := ⟨w0.heap.size, 1, none⟩) (Nat.le_refl _) (.slice a1 ws.length c1)
      have hrS := ((row_below HCs.out.c hb2).set 0 (.int .i64 (q : Int))).set 1 (.slice a1 ws.length c1)
      have hsS := Sl.of_owns (ownsRow_setCell_below (ownsRow_setCell_below ho2 (a := ⟨w0.heap.size, 0, none⟩) (by exact hhi) (.int .i64 (q : Int))) (a := ⟨w0.heap.size, 1, none⟩) (by exact hhi) (.slice a1 ws.length c1))
      generalize ((w2.setCell ⟨w0.heap.size, 0, none⟩ (.int .i64 (q : Int))).setCell ⟨w0.heap.size, 1, none⟩ (.slice a1 ws.length c1)) = wS at *
      have e0 : wS.cell? ⟨w0.heap.size, 0, none⟩ = some (.int .i64 (q : Int)) := by simpa using hrS.cell (i := 0) (by omega)
      have e1 : wS.cell? ⟨w0.heap.size, 1, none⟩ = some (.slice a1 ws.length c1) := by simpa using hrS.cell (i := 1) (by omega)
      have p0 := keeps hbS HPc.out.1
      have p1 := keeps hbS HPc.out.2.1
      have p2 := keeps hbS HPc.out.2.2.1
      have p3 := keeps hbS HPc.out.2.2.2
      have HSl := hid hsS
      have HPS := hid (HP0.out.below hbS)
      have HBS := hid (And.intro (HB0.out.trans (hbS.mono hle)) (Nat.le_trans hle hbS.size))
      clear hbS hrS hsS hb2 ho2 d0 d1 hf0 hf1 hbel HMk HCs HPc
      generalize w0.heap.size = G at *
      go_region_held3 (fun w' => w'.cell? ⟨G, 0, none⟩ = some (.int .i64 (q : Int)) ∧ w'.cell? ⟨G, 1, none⟩ = some (.slice a1 ws.length c1) ∧ w'.cell? ⟨B, 0, none⟩ = some (.int .i64 (q : Int)) ∧ w'.cell? ⟨B, 1, none⟩ = some (.slice aS (sizeW ws) cS) ∧ w'.cell? ⟨B, 2, none⟩ = some (.slice aN (sizeW ws) cN) ∧ w'.cell? ⟨B, 3, none⟩ = some (.slice aE (sizeW ws) cE))
        (first | exact ⟨e0, e1, p0, p1, p2, p3⟩ | go_keep)
        (first
          | (go_at_call 94; refine (psame_any (q : Int) (sizeW ws) q (stW ws) (nxI ws) (emI ws) _ _ _ _ _ _ _ rfl (HR5.out.below (bel_step (Below.refl _ _) (Below.refl _ _))) (HPS.out.below (bel_step HB5.out (Below.refl _ _)))).mono ?_; rintro e w6 ⟨rfl, hb6⟩; have e0 := keeps hb6 e0; have e1 := keeps hb6 e1; have p0 := keeps hb6 p0; have p1 := keeps hb6 p1; have p2 := keeps hb6 p2; have p3 := keeps hb6 p3)
          | (go_at_call 66; refine (HBu.out _ _ (HSl.out.below (bel_step HB4.out (Below.refl _ _)))).mono ?_; rintro e w5 ⟨vS, vN, vE, rfl, hres, hb5⟩; have e0 := keeps hb5 e0; have e1 := keeps hb5 e1; have p0 := keeps hb5 p0; have p1 := keeps hb5 p1; have p2 := keeps hb5 p2; have p3 := keeps hb5 p3; have HB5 := hid (bel_step HB4.out hb5); have HR5 := hid (hres.pval (by omega)); obtain ⟨aS', cS', aN', cN', aE', cE', rfl, rfl, rfl⟩ := hres.slices; clear hres)
          | (go_at_call 65; refine (HPf.out _ _ (HSl.out.below (bel_step (Below.refl _ _) (Below.refl _ _)))).mono ?_; rintro e w4 ⟨rfl, hb4⟩; have e0 := keeps hb4 e0; have e1 := keeps hb4 e1; have p0 := keeps hb4 p0; have p1 := keeps hb4 p1; have p2 := keeps hb4 p2; have p3 := keeps hb4 p3; have HB4 := hid (show Below wS.heap.size wS w4 from bel_step (Below.refl _ _) hb4)))
      have HB6 := hid (bel_step HB5.out hb6)
      clear hb6 HB5 e0 e1 p0 p1 p2 p3
      go_wp2
      go_ret
      exact ⟨rfl, by rw [HBe.out]; exact HBS.out.1.trans (HB6.out.mono HBS.out.2)⟩
end Go.Proofs.Ytalklhjmnoodeaa
