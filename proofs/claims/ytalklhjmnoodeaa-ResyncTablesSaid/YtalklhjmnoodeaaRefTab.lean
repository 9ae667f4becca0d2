/-
  grooveref45.table: the table of a machine.
  The machine's rows lie in memory; each state can read each letter; up to 64 states. 
-/
import Derived.Test.YtalklhjmnoodeaaRefTabA
import Derived.Test.YtalklhjmnoodeaaRefRun
import Derived.Deep.LoopGhost
namespace Go.Proofs.Ytalklhjmnoodeaa
open Go.RowKit Go.Deep
set_option linter.unusedVariables false

def accI : Option Int → Int
  | none => -1
  | some m => m
theorem RT.at {w0 wr : World} {n k bo oo cu : Nat} {g : Nat → Nat} {T : Nat → Nat → Int} (h : RT w0 n k (.slice (some ⟨bo, oo, none⟩) k cu) g T wr) {s : Nat} (hs : s < k) : wr.cell? ⟨bo, oo + s, none⟩ = some (.slice (some ⟨g s, 0, none⟩) n n) := by
  obtain ⟨b, o, e, hc⟩ := (Sl.of_owns h.R.o).cell (slV_get hs)
  simp only [Option.some.injEq, Addr.mk.injEq, and_true] at e
  obtain ⟨rfl, rfl⟩ := e
  exact hc

set_option maxRecDepth 100000 in
set_option maxHeartbeats 8000000 in
theorem rtab_any (vN vE : Value) (n q : Nat) (nx : Nat → Nat → Nat) (em : Nat → Nat → Int) (w : World)
    (hN : Mt w vN n q (fun i j => (nx i j : Int))) (hEm : Mt w vE n q em) (hc : ∀ s a, nx s a < n) (hn : n ≤ 64) (hq : q ≤ 16) :
    Calls Try.prog 51 #[.agg #[vN, vE]] w fun e w' => ∃ u T, e = .returned u ∧ IsTab n q nx T ∧ Mt w' u n n T ∧ Below w.heap.size w w' := by
  obtain ⟨aN, cN, rfl, hcN, hcN2⟩ := hN.slice
  obtain ⟨aE, cE, rfl, hcE, hcE2⟩ := hEm.slice
  have HN0 := hid hN
  clear hN hEm
  go_enter Try.func51, Try.ntmps51
  go_upto_region 1 with fail
  obtain ⟨w0, hw0⟩ : ∃ w0, w.alloc (.cells #[.slice aN n cN, .slice aE n cE] 69) = w0 := ⟨_, rfl⟩
  have hb0 : Below w.heap.size w w0 := by rw [← hw0]; exact bel_alloc _ _
  have c2 : w0.cell? ⟨w.heap.size, 0, none⟩ = some (.slice aN n cN) := by rw [← hw0]; simp
  rw [hw0]
  have HB0 := hid hb0
  have HC0 := hid c2
  have HN1 := hid (HN0.out.below hb0)
  clear hw0 hb0 c2 HN0
  go_upto_region 3 with fail
  go_loopw [3, 4] (fun u i wr => ∃ k : Nat, k ≤ n ∧ i = .int .i64 k ∧ ∃ g, RT w0 n k u g tab0 wr) (fun _ i _ => n - (intOf i).toNat)
  case atStart => exact ⟨0, Nat.zero_le _, rfl, _, RT.start w0 n id tab0⟩
  case round =>
    obtain ⟨k, hk, rfl, g, hT⟩ := hrel
    have HT := hid hT
    have c2 := keeps hT.bel HC0.out
    obtain ⟨au, cu, rfl⟩ := own_slice hT.R.o
    clear hT
    by_cases hlt : k < n
    · have hmk := run_make_row' (P := Try.prog) 41 3 (.int .i64 0) 8 Try.underlying41 Try.infoInt rfl .i64 .i64 n (by omega) (by omega)
      have HM := hid (HT.out.made)
      have hsz := HT.out.bel.size
      go_upto_region 7 with fail
      clear c2 hmk
      generalize hW : wr.alloc (.cells (madeCells #[.int .i64 0] n) 3) = wA at *
      clear hW
      generalize wr.heap.size = b at *
      go_loopw [6] (fun i wi => ∃ t : Nat, t ≤ n ∧ i = .int .i64 t ∧ RTp w0 n k (.slice au k cu) g tab0 b t wi) (fun i _ => n - (intOf i).toNat)
      case atStart => exact ⟨0, Nat.zero_le _, rfl, HM.out⟩
      case round =>
        obtain ⟨t, ht, rfl, hP⟩ := hrel
        have HP := hid hP
        clear hP HM
        by_cases hlt2 : t < n
        · have r1 := HP.out.rb.cell (i := t) (by omega)
          have r2 := HP.out.rb.frozen t
          by_cases hkt : k = t
          · have hb1 : ((k : Int) == (t : Int)) = true := by simp [hkt]
            have HD := hid (HP.out.two hlt2 (-1) (show (0 : Int) = tab0 k t by simp [tab0, hkt]))
            have r3 := (HP.out.rb.set t (.int .i64 (-1))).cell (i := t) (by omega)
            have r4 := (HP.out.rb.set t (.int .i64 (-1))).frozen t
            rw [if_pos rfl] at r3
            clear hkt
            go_wp2
            go_roundw
            case rel => exact ⟨t + 1, by omega, by go_num, HD.out⟩
            case measure => simp [intOf]; omega
          · have hb1 : ((k : Int) == (t : Int)) = false := by rw [beq_eq_false_iff_ne]; omega
            have HD := hid (HP.out.one hlt2 (show (-1 : Int) = tab0 k t by simp [tab0, hkt]))
            clear hkt
            go_wp2
            go_roundw
            case rel => exact ⟨t + 1, by omega, by go_num, HD.out⟩
            case measure => simp [intOf]; omega
        · obtain rfl : t = n := by omega
          have hszi := HP.out.rt.bel.size
          have hO := HP.out.rt.R.o
          go_wp2_with (at_builtin; refine wpList_push _ rfl _ _ 34 rfl w0.heap.size 41 (.slice none 0 0) 1 24 Try.underlying34 Try.infoInts rfl (by decide) _ _ _ rfl hO #[.slice (some ⟨b, 0, none⟩) _ _] rfl (oneCell_slice _ _ _) rfl (by unfold maxLen; omega) (by omega) hszi ?_; intro g1 gc1 w4 ho4 hg4 hb4)
          go_roundw
          case rel => exact ⟨k + 1, by omega, by go_num, _, HP.out.done hg4 ho4⟩
          case measure => simp [intOf]; omega
    · obtain rfl : n = k := by omega
      have hpos : 0 < n := by have := hc 0 0; omega
      obtain ⟨bo, oo, rfl, _⟩ := (Sl.of_owns HT.out.R.o).cell (slV_get hpos)
      have HPre := hid (pre_tab0 n q nx)
      obtain ⟨g0, hg0⟩ : ∃ g0, g = g0 := ⟨_, rfl⟩
      rw [hg0] at HT
      clear hg0 hk hlt
      go_wp2_with fail
      clear c2
      go_loopg [7] (openN n tab0 + 1) (fun gk u wr => ∃ c T, u = .bool c ∧ gk = openN n T + (if c = true then 1 else 0) ∧ RT w0 n n (.slice (some ⟨bo, oo, none⟩) n cu) g0 T wr ∧ PreTab n q nx T ∧ (c = false → IsTab n q nx T))
      case atStart => exact ⟨true, tab0, rfl, rfl, HT.out, HPre.out, fun h => by cases h⟩
      case round =>
        obtain ⟨c, T, rfl, hgk, hT, hPT, hFin⟩ := hrel
        have HTT := hid hT
        have HPT := hid hPT
        clear HT HPre
        cases c
        · have HI := hid (hFin rfl)
          have HM := hid (hT.R.mt (by omega))
          have HB := hid (bel_step HB0.out hT.bel)
          clear hT hFin hgk
          go_wp2
          go_ret
          exact ⟨_, T, rfl, HI.out, HM.out, HB.out⟩
        · have HG := hid hgk
          clear hT hPT hFin hgk
          go_wp2_with fail
          go_loopw [7, 8] (fun u i wr => ∃ s : Nat, s ≤ n ∧ i = .int .i64 s ∧ ∃ c T', u = .bool c ∧ RT w0 n n (.slice (some ⟨bo, oo, none⟩) n cu) g0 T' wr ∧ PreTab n q nx T' ∧ Swept n q nx T T' c s 0) (fun _ i _ => n - (intOf i).toNat)
          case atStart => exact ⟨0, Nat.zero_le _, rfl, false, T, rfl, HTT.out, HPT.out, Swept.start⟩
          case round =>
            obtain ⟨s, hs, rfl, c, T1, rfl, hT1, hP1, hS1⟩ := hrel
            have H1 := hid (And.intro hT1 (And.intro hP1 hS1))
            clear hT1 hP1 HTT
            by_cases hlt : s < n
            · clear hS1
              go_wp2_with fail
              go_loopw [7, 9] (fun u i wr => ∃ t : Nat, t ≤ n ∧ i = .int .i64 t ∧ ∃ c T', u = .bool c ∧ RT w0 n n (.slice (some ⟨bo, oo, none⟩) n cu) g0 T' wr ∧ PreTab n q nx T' ∧ Swept n q nx T T' c s t) (fun _ i _ => n - (intOf i).toNat)
              case atStart => exact ⟨0, Nat.zero_le _, rfl, c, T1, rfl, H1.out.1, H1.out.2.1, H1.out.2.2⟩
              case round =>
                obtain ⟨t, ht, rfl, c2, T2, rfl, hT2, hP2, hS2⟩ := hrel
                have H2 := hid (And.intro hT2 (And.intro hP2 hS2))
                clear H1
                by_cases hlt2 : t < n
                · have o1 := hT2.at hlt
                  have o2 := (hT2.cell hlt hlt2).1
                  have o3 := (hT2.cell hlt hlt2).2
                  clear hT2 hP2 hS2
                  by_cases hv : T2 s t = -1
                  · have HV := hid hv
                    rw [hv] at o2
                    clear hv
                    obtain ⟨bn, on, rs, cs, e1, ns, hSs⟩ := HN1.out.row hlt
                    obtain ⟨bn', on', rt, ct, e2, nt, hSt⟩ := HN1.out.row hlt2
                    subst e1
                    simp only [Option.some.injEq, Addr.mk.injEq, and_true] at e2
                    obtain ⟨rfl, rfl⟩ := e2
                    have HRow := hid (And.intro ns (And.intro nt (And.intro hSs hSt)))
                    have HCs := hid (fun (i j : Nat) (hi : i < n) (hj : j < q) => HN1.out.cell hi hj)
                    clear ns nt hSs hSt
                    go_upto_region 25 with fail
                    clear o1 o2 o3
                    go_loopw [10, 11] (fun u i wi => ∃ a : Nat, a ≤ q ∧ i = .int .i64 a ∧ u = .int .i64 (accI (mostK nx T2 s t a)) ∧ Dr wr wi) (fun _ i _ => q - (intOf i).toNat)
                    case atStart => exact ⟨0, Nat.zero_le _, rfl, rfl, Dr.refl _⟩
                    case round =>
                      obtain ⟨a, ha, rfl, rfl, hD⟩ := hrel
                      rename World => wi
                      have HD := hid hD
                      have hbi := hD.below wr.heap.size
                      have hbw := bel_step H2.out.1.bel hbi
                      have c2' := keeps hbw HC0.out
                      have ns := keeps hbw HRow.out.1
                      have nt := keeps hbw HRow.out.2.1
                      have o1 := keeps hbi (H2.out.1.at hlt)
                      have o2 := keeps hbi (H2.out.1.cell hlt hlt2).1
                      have o3 := keeps_frozen hbi (H2.out.1.cell hlt hlt2).1 (H2.out.1.cell hlt hlt2).2
                      cases hm : mostK nx T2 s t a with
                      | none =>
                        have HS := hid (H2.out.2.2.stuck (show mostK nx T2 s t q = none by
                          obtain ⟨b, hb, h1⟩ := mostK_none_iff.1 hm
                          exact mostK_none_iff.2 ⟨b, by omega, h1⟩))
                        rw [show accI none = -1 from rfl]
                        clear hD hbi hbw hm
                        by_cases hlt3 : a < q
                        · go_wp2
                          go_roundw
                          case rel => exact ⟨t + 1, by omega, by go_num, c2, T2, rfl, H2.out.1.keep (HD.out.below _), H2.out.2.1, HS.out⟩
                          case measure => simp [intOf]; omega
                        · go_wp2
                          go_roundw
                          case rel => exact ⟨t + 1, by omega, by go_num, c2, T2, rfl, H2.out.1.keep (HD.out.below _), H2.out.2.1, HS.out⟩
                          case measure => simp [intOf]; omega
                      | some m =>
                        have hm0 := (mostK_some hm).1
                        have hmb : m ≤ 4096 := by
                          by_cases h0 : 0 < m
                          · obtain ⟨b, hb, h1⟩ := mostK_attain hm h0
                            have h2 := tab_bound (fun a _ b _ => hc a b) H2.out.2.1 (hc s b) (hc t b)
                            have h3 : n * n ≤ 64 * 64 := Nat.mul_le_mul hn hn
                            omega
                          · omega
                        rw [show accI (some m) = m from rfl]
                        by_cases hlt3 : a < q
                        · obtain ⟨_, _, bs, os, cs', e3, f1, f2⟩ := HCs.out s a hlt hlt3
                          obtain ⟨_, _, bt, ot, ct', e4, f3, f4⟩ := HCs.out t a hlt2 hlt3
                          simp only [Option.some.injEq, Addr.mk.injEq, and_true] at e3 e4
                          obtain ⟨rfl, rfl⟩ := e3
                          obtain ⟨rfl, rfl⟩ := e4
                          have g1 := keeps hbw f1
                          have g2 := keeps hbw f2
                          have g3 := keeps hbw f3
                          have g4 := keeps hbw f4
                          rw [ns] at g1
                          rw [nt] at g3
                          simp only [Option.some.injEq, Value.slice.injEq, true_and] at g1 g3
                          obtain ⟨rfl, rfl⟩ := g1
                          obtain ⟨rfl, rfl⟩ := g3
                          have hX := hc s a
                          have hY := hc t a
                          have o4 := keeps hbi (H2.out.1.at hX)
                          have o5 := keeps hbi (H2.out.1.cell hX hY).1
                          have HGd := hid (fun h => mostK_good hm h)
                          have HBd := hid (fun h => mostK_bad (nx := nx) (T := T2) (s := s) (t := t) (a := a) h)
                          clear hm hD hbi hbw f1 f2 f3 f4
                          generalize nx s a = X at *
                          generalize nx t a = Y at *
                          generalize T2 X Y = V at *
                          clear o1 o2 o3
                          by_cases hV : V < 0
                          · have HB2 := hid (HBd.out hV)
                            go_wp2_with fail
                            go_quiet (fail)
                            clear g2 g4 o4 o5 ns nt c2'
                            go_wp2
                            go_roundw
                            case rel => exact ⟨a + 1, by omega, by go_num, by rw [HB2.out]; rfl, HD.out.drewN _⟩
                            case measure => simp [intOf]; omega
                          · have HB2 := hid (HGd.out hV)
                            go_wp2_with fail
                            go_quiet (fail)
                            clear g2 g4 o4 o5 ns nt c2'
                            go_wp2
                            go_roundw
                            case rel => exact ⟨a + 1, by omega, by go_num, by rw [HB2.out]; rfl, HD.out.drewN _⟩
                            case measure => simp [intOf]; omega
                        · obtain rfl : q = a := by omega
                          have HS := hid (H2.out.2.2.more hlt hlt2 HV.out hm0 (t + 1))
                          have HPu := hid (pre_up (t := t) H2.out.2.1 hlt HV.out hm)
                          have hw1 : IntKind.i64.wrap (m + 1) = m + 1 := by rw [IntKind.wrap_i64]; omega
                          have HU := hid ((H2.out.1.keep (HD.out.below _)).upd (s := s) (t := t) hlt (m + 1))
                          clear hD hbi hbw hm
                          go_wp2
                          go_roundw
                          case rel => exact ⟨t + 1, by omega, by go_num, true, _, rfl, HU.out, HPu.out, HS.out⟩
                          case measure => simp [intOf]; omega
                  · have hv0 : 0 ≤ T2 s t := by have := H2.out.2.1.low hlt hlt2; omega
                    have HN := hid (H2.out.2.2.full hv)
                    clear hv
                    go_wp2
                    go_roundw
                    case rel => exact ⟨t + 1, by omega, by go_num, c2, T2, rfl, H2.out.1, H2.out.2.1, HN.out⟩
                    case measure => simp [intOf]; omega
                · have e : t = n := by omega
                  have HN := hid (show Swept n q nx T T2 c2 (s + 1) 0 from Swept.line (e ▸ hS2))
                  clear hT2 hP2 hS2
                  go_wp2
                  go_roundw
                  case rel => exact ⟨s + 1, by omega, by go_num, c2, T2, rfl, H2.out.1, H2.out.2.1, HN.out⟩
                  case measure => simp [intOf]; omega
            · have e : s = n := by omega
              have HS := hid (show Swept n q nx T T1 c n 0 from e ▸ hS1)
              clear hS1
              go_wp2
              go_roundg (openN n T1 + (if c = true then 1 else 0))
              case rel =>
                refine ⟨c, T1, rfl, rfl, H1.out.1, H1.out.2.1, fun hc => ?_⟩
                subst hc
                obtain ⟨h1, h2⟩ := HS.out.done HPT.out
                rw [h1]; exact h2
              case measure =>
                rw [HG.out]
                cases c with
                | false => rw [(HS.out.1 rfl).1]; simp
                | true => have := HS.out.2 rfl; simp; omega
end Go.Proofs.Ytalklhjmnoodeaa
