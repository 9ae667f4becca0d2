/-
  The reference's Essential at a valid graph.
  No condition beyond the graph being valid, with a state.
-/
import Derived.Test.YtppflnkadjddiaaEssMaps
namespace Go.Proofs.Ytppflnkadjddiaa
open Go.RowKit Go.Sort
set_option linter.unusedVariables false

/-- What the walk keeps: the graph's box, the result's cells. -/
structure EssW (w : World) (L S : Int) (ao : Option Addr) (n cap : Nat) (es : List Edge) (wr : World) : Prop where
  bel : Below w.heap.size w wr
  hi : w.heap.size + 2 ≤ wr.heap.size
  c0 : wr.cell? ⟨w.heap.size, 0, none⟩ = some (.int .i64 L)
  c1 : wr.cell? ⟨w.heap.size, 1, none⟩ = some (.int .i64 S)
  c2 : wr.cell? ⟨w.heap.size, 2, none⟩ = some (.slice ao n cap)
  r0 : wr.cell? ⟨w.heap.size + 1, 0, none⟩ = some (.int .i64 0)
  r1 : wr.cell? ⟨w.heap.size + 1, 1, none⟩ = some (.int .i64 0)
  r2 : wr.cell? ⟨w.heap.size + 1, 2, none⟩ = some (.slice none 0 0)
  rf : ∀ j, j < 3 → wr.frozen? ⟨w.heap.size + 1, j, none⟩ = false
theorem EssW.keep {w wr w' : World} {L S : Int} {ao : Option Addr} {n cap : Nat} {es : List Edge} (h : EssW w L S ao n cap es wr) {B : Nat} (hB : w.heap.size + 2 ≤ B) (hb : Below B wr w') : EssW w L S ao n cap es w' := by
  have k : ∀ (g j : Nat) (v : Value), g < B → wr.cell? ⟨g, j, none⟩ = some v → w'.cell? ⟨g, j, none⟩ = some v := fun g j v hg hc => (hb.cell (p := ⟨g, j, none⟩) hg).trans hc
  exact ⟨h.bel.trans (hb.mono (by omega)), Nat.le_trans h.hi hb.size, k _ _ _ (by omega) h.c0, k _ _ _ (by omega) h.c1, k _ _ _ (by omega) h.c2, k _ _ _ (by omega) h.r0, k _ _ _ (by omega) h.r1, k _ _ _ (by omega) h.r2, fun j hj => (hb.frozen (p := ⟨w.heap.size + 1, j, none⟩) (by show w.heap.size + 1 < B; omega)).trans (h.rf j hj)⟩
theorem EssW.on {w wr w' : World} {L S : Int} {ao : Option Addr} {n cap : Nat} {es : List Edge} (h : EssW w L S ao n cap es wr) (hb : Below wr.heap.size wr w') : EssW w L S ao n cap es w' := h.keep h.hi hb

set_option maxRecDepth 100000 in
set_option maxHeartbeats 4000000 in
theorem refEss_any (L S : Int) (v : Value) (es : List Edge) (w : World) (hF : GFine L S es) (hl : Sl 3 w v es.length (ecells es)) :
    Calls Try.prog 55 #[.agg #[.int .i64 L, .int .i64 S, v]] w fun e w' => ∃ u v2, e = .returned (.tuple #[.agg #[.int .i64 L, .int .i64 ((ess es (upTo S.toNat)).length : Int), u], v2, .int .i64 0]) ∧
      w'.ownsRow w.heap.size 64 3 u (partE (ess es (upTo S.toNat)) es).length (ecells (partE (ess es (upTo S.toNat)) es)) ∧ Below w.heap.size w w' := by
  obtain ⟨N, hN⟩ : ∃ N : Nat, S = (N : Int) := ⟨S.toNat, by have := hF.s0; omega⟩
  subst hN
  rw [Int.toNat_natCast]
  have hN64 : N ≤ 64 := by have := hF.s1; omega
  have hn := hF.len
  obtain ⟨ao, cap, rfl, _, hc1, hm1, _⟩ := id hl
  have HL := hid hl
  have HC := hid (refGCheck_any L (N : Int) (.slice ao es.length cap) es)
  have HF := hid hF
  clear hl hF
  go_enter Try.func55, Try.ntmps55
  go_upto_region 1 with fail
  obtain ⟨w0, hw0⟩ : ∃ w0, (w.alloc (.cells #[.int .i64 L, .int .i64 (N : Int), .slice ao es.length cap] 55)).alloc (.cells #[.int .i64 0, .int .i64 0, .slice none 0 0] 55) = w0 := ⟨_, rfl⟩
  have hE : EssW w L (N : Int) ao es.length cap es w0 := by
    have hb : Below w.heap.size w w0 := by rw [← hw0]; exact ((Below.refl _ _).alloc (Nat.le_refl _) _).alloc (by simp) _
    refine ⟨hb, by rw [← hw0]; simp, by rw [← hw0]; simp, by rw [← hw0]; simp, by rw [← hw0]; simp, by rw [← hw0]; simp, by rw [← hw0]; simp, by rw [← hw0]; simp, ?_⟩
    intro j _
    rw [← hw0, show (⟨w.heap.size + 1, j, none⟩ : Addr) = ⟨(w.alloc (.cells #[.int .i64 L, .int .i64 (N : Int), .slice ao es.length cap] 55)).heap.size, j, none⟩ by rw [World.size_alloc]]
    exact frozen_laid (Below.refl _ _) j
  have HE := hid hE
  rw [hw0]
  have c0 := hE.c0
  have c1 := hE.c1
  have c2 := hE.c2
  clear hw0 hE
  go_upto_region 3 with (go_at_call 86; refine (HC.out _ HF.out (HL.out.below HE.out.bel)).mono ?_; rintro e w1 ⟨rfl, hb⟩; have c1 := keeps hb c1)
  have HE1 := hid (HE.out.on hb)
  clear hb c0 c1 c2 HE
  have HC1 := hid HE1.out.c1
  clear c1
  go_wp2_with fail
  go_loopw [5, 6] (fun u i wr => ∃ k : Nat, k ≤ N ∧ i = .int .i64 k ∧ wr.ownsRow (w.heap.size + 2) 3 1 u k (ints (upTo k)) ∧ EssW w L (N : Int) ao es.length cap es wr) (fun _ i _ => N - (intOf i).toNat)
  case atStart => exact ⟨0, by omega, rfl, World.ownsRow_nil _ _ _ _, HE1.out⟩
  case round =>
    obtain ⟨k, hk, rfl, hown, hE⟩ := hrel
    have c1 := hE.c1
    have HE := hid hE
    have hhi := hE.hi
    clear hE
    by_cases hlt : k < N
    · go_wp2_with (at_builtin; refine wpList_push _ rfl _ _ 24 rfl (w.heap.size + 2) 3 (.int .i64 0) 1 8 Try.underlying24 Try.info3 rfl (by decide) _ _ _ rfl hown #[.int .i64 (k : Int)] rfl (oneCell_int _ _) rfl (by unfold maxLen; omega) (by omega) hhi ?_; intro g gc w2 hown2 hg2 hb2)
      go_roundw
      case rel => exact ⟨k + 1, by omega, by go_num, by rw [upTo_succ, ints_snoc]; exact hown2, HE.out.keep (Nat.le_refl _) hb2⟩
      case measure => simp [intOf]; omega
    · obtain rfl : k = N := by omega
      have hS0 : Sl 1 wr u5 (upTo k).length (ints (upTo k)) := by rw [upTo_len]; exact Sl.of_owns hown
      have hform : ∃ ao cap, u5 = .slice ao (upTo k).length cap := by rw [upTo_len]; exact own_slice hown
      have hu64 : (upTo k).length ≤ 64 := by rw [upTo_len]; exact hN64
      generalize hst0 : upTo k = st0 at *
      have HST := hid hst0
      clear hst0 hown hlt hk
      go_wp2_with fail
      go_loopw [5, 7] (fun u c wr => ∃ st : List Int, ∃ b : Bool, c = .bool b ∧ (∃ ao cap, u = .slice ao st.length cap) ∧ Sl 1 wr u st.length (ints st) ∧ st.length ≤ 64 ∧ EssW w L (k : Int) ao es.length cap es wr ∧ Hid (if b = true then ess es st0 = ess es st else ess es st0 = st)) (fun u c _ => lenOf u + boolN c)
      case atStart => exact ⟨st0, true, rfl, hform, hS0, hu64, HE.out, hid rfl⟩
      case round =>
        obtain ⟨st, b, rfl, ⟨ao5, cap5, rfl⟩, hS, h64, hE, HQ⟩ := hrel
        clear HE hS0 hform
        have HE := hid hE
        have HS := hid hS
        obtain ⟨_, _, _, _, hcs1, hcs2, _⟩ := id hS
        have hhi2 := hE.hi
        clear hE hS
        cases b with
        | false =>
          have HQ2 := hid (show ess es st0 = st from HQ.out)
          clear HQ
          have e0 := HE.out.c0
          have e1 := HE.out.c1
          have e2 := HE.out.c2
          go_wp2_with (go_at_call 88; refine (refPart_any L (k : Int) _ _ es st _ (HL.out.below HE.out.bel) HS.out hn).mono ?_; rintro e w2 ⟨u, rfl, ho, hb⟩; obtain ⟨au, cu, rfl⟩ := own_slice ho; have HE2 := hid (HE.out.on hb); have r0 := HE2.out.r0; have r1 := HE2.out.r1; have r2 := HE2.out.r2; have f0 := HE2.out.rf 0 (by omega); have f1 := HE2.out.rf 1 (by omega); have f2 := HE2.out.rf 2 (by omega))
          refine bodyPost_ret (v := .tuple #[.agg #[.int .i64 L, .int .i64 (st.length : Int), .slice au (partE st es).length cu], .slice ao5 st.length cap5, .int .i64 0]) ?_ rfl ⟨_, _, by rw [HST.out, HQ2.out], ?_, ?_⟩
          · simp [results, Try.results55, go_sem, r0, r1, r2]
          · rw [HST.out, HQ2.out]
            exact own_base (ownsRow_setCell_below (ownsRow_setCell_below (ownsRow_setCell_below ho (by show w.heap.size + 1 < wr.heap.size; omega) _) (by show w.heap.size + 1 < wr.heap.size; omega) _) (by show w.heap.size + 1 < wr.heap.size; omega) _) (by omega)
          · exact ((HE2.out.bel.setCell (p := ⟨w.heap.size + 1, 0, none⟩) (by show w.heap.size ≤ w.heap.size + 1; omega) _).setCell (p := ⟨w.heap.size + 1, 1, none⟩) (by show w.heap.size ≤ w.heap.size + 1; omega) _).setCell (p := ⟨w.heap.size + 1, 2, none⟩) (by show w.heap.size ≤ w.heap.size + 1; omega) _
        | true =>
          have HQ2 := hid (show ess es st0 = ess es st from HQ.out)
          clear HQ
          obtain ⟨Wr, hWr⟩ : ∃ W : World, W = wr := ⟨_, rfl⟩
          rw [← hWr] at HE HS hhi2 ⊢
          clear hWr
          go_wp2_with fail
          go_loopw [7, 8, 9] (fun c u i wi => ∃ j : Nat, j ≤ st.length ∧ i = .int .i64 j ∧ c = .bool (decide ((kept es st j).length < j)) ∧ wi.ownsRow Wr.heap.size 3 1 u (kept es st j).length (ints (kept es st j)) ∧ Below Wr.heap.size Wr wi) (fun _ _ i _ => st.length - (intOf i).toNat)
          case atStart => exact ⟨0, by omega, rfl, rfl, World.ownsRow_nil _ _ _ _, Below.refl _ _⟩
          case round =>
            obtain ⟨j, hj, rfl, rfl, hown, hbel⟩ := hrel
            have hkl := kept_len es st j
            by_cases hlt : j < st.length
            · obtain ⟨s, hs⟩ := some_of_lt hlt
              obtain ⟨b, o, rfl, d0⟩ := (HS.out.below hbel).cell (ints_get hs)
              have HSs := hid hs
              have HOwn := hid hown
              have HBel := hid hbel
              clear hs hown hbel
              have HEi := hid (HE.out.on HBel.out)
              obtain ⟨wi, rfl⟩ : ∃ wi : World, wi = wr := ⟨_, rfl⟩
              go_wp2_with fail
              go_loopw [10, 11, 12] (fun p q i wj => ∃ n : Nat, n ≤ es.length ∧ i = .int .i64 n ∧ p = .bool ((es.take n).any (fun x => decide (x.t = s) && hasB st x.f)) ∧ q = .bool ((es.take n).any (fun x => decide (x.f = s) && hasB st x.t)) ∧ Below wi.heap.size wi wj) (fun _ _ i _ => es.length - (intOf i).toNat)
              case atStart => exact ⟨0, by omega, rfl, rfl, rfl, Below.refl _ _⟩
              case round =>
                obtain ⟨n, hn2, rfl, rfl, rfl, hbel⟩ := hrel
                have hEj := HEi.out.on hbel
                have c2 := hEj.c2
                by_cases hln : n < es.length
                · obtain ⟨x, hx⟩ := some_of_lt hln
                  obtain ⟨be, oe, rfl, g0, g1, g2⟩ := (HL.out.below hEj.bel).edge hx
                  have HX := hid hx
                  have HBj := hid hbel
                  clear hx hEj hbel
                  go_upto_region 20 with fail
                  obtain ⟨wx, hwx⟩ : ∃ wx, wr.alloc (.cells #[.int .i64 x.f, .int .i64 x.l, .int .i64 x.t] 64) = wx := ⟨_, rfl⟩
                  have hbx : Below wr.heap.size wr wx := by rw [← hwx]; exact (Below.refl _ _).alloc (Nat.le_refl _) _
                  have x0 : wx.cell? ⟨wr.heap.size, 0, none⟩ = some (.int .i64 x.f) := by rw [← hwx]; simp
                  have x2 : wx.cell? ⟨wr.heap.size, 2, none⟩ = some (.int .i64 x.t) := by rw [← hwx]; simp
                  have HBx := hid (bel_step HBj.out hbx)
                  have HSx := hid (((HS.out.below HBel.out).below HBj.out).below hbx)
                  have z0 := keeps hbx (keeps HBj.out d0)
                  rw [hwx]
                  clear hwx hbx c2 g0 g1 g2 d0 HBj
                  have HA := hid (any_snoc (fun x => decide (x.t = s) && hasB st x.f) HX.out)
                  have HB := hid (any_snoc (fun x => decide (x.f = s) && hasB st x.t) HX.out)
                  have hjj : (j : Int) < (st.length : Int) := by omega
                  generalize (es.take n).any (fun x => decide (x.t = s) && hasB st x.f) = I at *
                  generalize (es.take n).any (fun x => decide (x.f = s) && hasB st x.t) = O at *
                  go_cut [10] (fun u w' => u = .bool (I || (decide (x.t = s) && hasB st x.f)) ∧ Dr wx w')
                  case first =>
                    cases I
                    · by_cases he : x.t = s
                      · have hb : (x.t == s) = true := by simp [he]
                        have HR := hid (show hasB st x.f = (false || (decide (x.t = s) && hasB st x.f)) by simp [he])
                        clear he
                        go_quiet ((go_at_call 87; exact quietS (refHas9_any _ st _ _ (HSx.out.dr ⟨_, rfl⟩))))
                        go_wp2_with fail
                        go_meet
                        exact ⟨by rw [← HR.out], _, rfl⟩
                      · have hb : (x.t == s) = false := by simp [he]
                        have HR := hid (show false = (false || (decide (x.t = s) && hasB st x.f)) by simp [he])
                        clear he
                        go_quiet (fail)
                        go_wp2_with fail
                        go_meet
                        exact ⟨by rw [← HR.out], _, rfl⟩
                    · go_quiet (fail)
                      go_wp2_with fail
                      go_meet
                      exact ⟨rfl, _, rfl⟩
                  case rest =>
                    obtain ⟨rfl, hD⟩ := hcut
                    have HD := hid hD
                    have y0 := keeps (hD.below _) x0
                    have y2 := keeps (hD.below _) x2
                    have z1 := keeps (hD.below _) z0
                    have HSc := hid (HSx.out.dr hD)
                    clear hD x0 x2 z0 HSx
                    rw [← HA.out]
                    go_upto_region 21 with fail
                    cases O
                    · by_cases he : x.f = s
                      · have hb : (x.f == s) = true := by simp [he]
                        have HR := hid (show hasB st x.t = (false || (decide (x.f = s) && hasB st x.t)) by simp [he])
                        clear he
                        go_quiet ((go_at_call 87; exact quietS (refHas9_any _ st _ _ (HSc.out.dr ⟨_, rfl⟩))))
                        have HN := hid (HBx.out.trans ((HD.out.drewN nq).below _))
                        clear y0 y2 z1
                        go_wp2
                        go_roundw
                        case rel => exact ⟨n + 1, by omega, by go_num, rfl, by rw [HB.out, ← HR.out], HN.out⟩
                        case measure => simp [intOf]; omega
                      · have hb : (x.f == s) = false := by simp [he]
                        have HR := hid (show false = (false || (decide (x.f = s) && hasB st x.t)) by simp [he])
                        clear he
                        go_quiet (fail)
                        have HN := hid (HBx.out.trans ((HD.out.drewN nq).below _))
                        clear y0 y2 z1
                        go_wp2
                        go_roundw
                        case rel => exact ⟨n + 1, by omega, by go_num, rfl, by rw [HB.out, ← HR.out], HN.out⟩
                        case measure => simp [intOf]; omega
                    · have HR := hid (show true = (true || (decide (x.f = s) && hasB st x.t)) by simp)
                      go_quiet (fail)
                      have HN := hid (HBx.out.trans ((HD.out.drewN nq).below _))
                      clear y0 y2 z1
                      go_wp2
                      go_roundw
                      case rel => exact ⟨n + 1, by omega, by go_num, rfl, by rw [HB.out, ← HR.out], HN.out⟩
                      case measure => simp [intOf]; omega
                · have e : es.take n = es := take_all (by omega)
                  rw [e]
                  have HI := hid (show es.any (fun x => decide (x.t = s) && hasB st x.f) = inB es st s from rfl)
                  have HO := hid (show es.any (fun x => decide (x.f = s) && hasB st x.t) = outB es st s from rfl)
                  have HBj := hid hbel
                  have HBelj := hid (bel_step HBel.out hbel)
                  have z0 := keeps hbel d0
                  have hOwn := own_below HOwn.out hbel
                  have HY := hid (fun h => kept_yes (es := es) (st := st) HSs.out h)
                  have HNo := hid (fun h => kept_no (es := es) (st := st) HSs.out h)
                  rw [HI.out, HO.out]
                  have hjj : (j : Int) < (st.length : Int) := by omega
                  clear hEj hbel d0 e
                  have HSt := hid (show stays es st s = (inB es st s && outB es st s) from rfl)
                  generalize inB es st s = I at *
                  generalize outB es st s = O at *
                  by_cases hIO : stays es st s = true
                  · have hI : I = true := by rw [HSt.out] at hIO; simp at hIO; exact hIO.1
                    have hO : O = true := by rw [HSt.out] at hIO; simp at hIO; exact hIO.2
                    subst hI hO
                    have HN := hid (HY.out hIO)
                    have HLn := hid (show decide ((kept es st (j + 1)).length < j + 1) = decide ((kept es st j).length < j) by rw [HN.out]; simp)
                    clear hIO
                    go_wp2_with (at_builtin; refine wpList_push _ rfl _ _ 24 rfl Wr.heap.size 3 (.int .i64 0) 1 8 Try.underlying24 Try.info3 rfl (by decide) _ _ _ rfl hOwn #[.int .i64 s] rfl (oneCell_int _ _) rfl (by unfold maxLen; omega) (by omega) (by exact HBelj.out.size) ?_; intro g gc w2 hown2 hg2 hb2)
                    go_roundw
                    case rel => exact ⟨j + 1, by omega, by go_num, by rw [HLn.out], by rw [HN.out, ints_snoc, List.length_append]; exact hown2, HBelj.out.trans hb2⟩
                    case measure => simp [intOf]; omega
                  · have HN := hid (HNo.out (by simpa using hIO))
                    have HLn := hid (show decide ((kept es st (j + 1)).length < j + 1) = true by rw [HN.out]; simp; omega)
                    have hIO2 : (I && O) = false := by rw [← HSt.out]; simpa using hIO
                    clear hIO
                    cases I
                    · go_wp2
                      go_roundw
                      case rel => exact ⟨j + 1, by omega, by go_num, by rw [HLn.out], by rw [HN.out]; exact hOwn, HBelj.out⟩
                      case measure => simp [intOf]; omega
                    · have hO : O = false := by simpa using hIO2
                      subst hO
                      go_wp2
                      go_roundw
                      case rel => exact ⟨j + 1, by omega, by go_num, by rw [HLn.out], by rw [HN.out]; exact hOwn, HBelj.out⟩
                      case measure => simp [intOf]; omega
            · have e : kept es st j = rnd es st := kept_all (by omega)
              obtain rfl : j = st.length := by omega
              rw [e] at hown hkl
              rw [e]
              have hS := Sl.of_owns hown
              obtain ⟨ar, cr, rfl⟩ := own_slice hown
              have HEn := hid (HE.out.on hbel)
              have HR := hid (show (if decide ((rnd es st).length < st.length) = true then ess es st0 = ess es (rnd es st) else ess es st0 = rnd es st) by
                split
                · rename_i h; rw [HQ2.out, ess_step (by simpa using h)]
                · rename_i h; rw [HQ2.out, ess_done (by simpa using h), rnd_same (by simpa using h)])
              clear hown hj e
              go_wp2
              go_roundw
              case rel => exact ⟨rnd es st, _, rfl, ⟨_, _, rfl⟩, hS, by omega, HEn.out, HR⟩
              case measure =>
                by_cases hq : (rnd es st).length < st.length
                · simp [lenOf, boolN, hq]
                · simp [lenOf, boolN, hq]; omega
end Go.Proofs.Ytppflnkadjddiaa
