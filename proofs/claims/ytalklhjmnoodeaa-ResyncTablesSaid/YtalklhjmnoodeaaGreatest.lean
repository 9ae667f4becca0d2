/-
  resync.Greatest: the greatest delay of a replaced letter.
  No condition beyond the words lying in a slice.
-/
import Derived.Test.YtalklhjmnoodeaaTable45
import Derived.Test.YtalklhjmnoodeaaGreatLaw
namespace Go.Proofs.Ytalklhjmnoodeaa
open Go.RowKit Go.Deep
set_option linter.unusedVariables false

def gI (o : Option Int) : Int := match o with | none => 0 | some k => k
def gB (o : Option Int) : Bool := o.isSome
def GPost (q : Int) (ws : List ByteArray) (w : World) (e : Ending) (w' : World) : Prop :=
  (rErr q ws [] ≠ 0 ∧ e = .returned (.tuple #[.int .i64 0, .bool false, .int .i64 (rErr q ws [])]) ∧ Below w.heap.size w w') ∨
  (rErr q ws [] = 0 ∧ (∃ T, IsTab (sizeW ws) q.toNat (nxN ws) T ∧ e = .returned (.tuple #[.int .i64 (gI (greatN (sizeW ws) q.toNat (nxN ws) T)), .bool (gB (greatN (sizeW ws) q.toNat (nxN ws) T)), .int .i64 0])) ∧ Below w.heap.size w w')
theorem gpost_ok {q : Int} {ws : List ByteArray} {w w' : World} {T : Nat → Nat → Int} (o : Option Int) (hE : rErr q ws [] = 0) (hT : IsTab (sizeW ws) q.toNat (nxN ws) T) (ho : greatN (sizeW ws) q.toNat (nxN ws) T = o) (hb : Below w.heap.size w w') :
    GPost q ws w (.returned (.tuple #[.int .i64 (gI o), .bool (gB o), .int .i64 0])) w' := .inr ⟨hE, ⟨T, hT, by rw [ho]⟩, hb⟩

set_option maxRecDepth 100000 in
set_option maxHeartbeats 4000000 in
theorem greatest_any (q : Int) (v : Value) (ws : List ByteArray) (w : World) (hl : Sl 1 w v ws.length (strs ws)) :
    Calls Try.prog 22 #[.agg #[.int .i64 q, v]] w (GPost q ws w) := by
  have HL := hid hl
  have HBd := hid (fun X h => rbuild_any q v (.slice none 0 0) ws [] X h (Sl.nil 1 X))
  obtain ⟨ao, cap, rfl, _, hl1, hl2, hl3⟩ := hl
  clear hl3
  go_enter Try.func22, Try.ntmps22
  by_cases hE : rErr q ws [] = 0
  · obtain ⟨hA, h64, _⟩ := rErr_zero hE
    have hm := mach_of hA
    obtain ⟨Q, rfl⟩ : ∃ Q : Nat, q = Q := ⟨q.toNat, by have := hm.q2; omega⟩
    have HTab := hid (fun (vS vN vE : Value) (X : World) (h : PVal X vS vN vE (sizeW ws) ((Q : Int)).toNat (stW ws) (nxI ws) (emI ws)) => table_any vS vN vE (sizeW ws) Q (stW ws) (nxN ws) (emI ws) X (h.nat hm) hm.lt h64 hm.pos (by have := hm.q2; omega) (by have := hm.q16; omega))
    have HE := hid hE
    have HM := hid hm
    have hq16 := hm.q16
    go_upto_region 2 with (go_at_call 39; refine (HBd.out _ (HL.out.below (bel_alloc _ _))).mono ?_; rintro e w1 (⟨hne, _⟩ | ⟨_, vS, vN, vE, rfl, hres, hb1⟩); (exact absurd hE hne); have HB1 := hid (bel_step (bel_alloc _ _) hb1); obtain ⟨aS, cS, aN, cN, aE, cE, rfl, rfl, rfl⟩ := hres.slices)
    obtain ⟨wp, hwp⟩ : ∃ wp, w1.alloc (.cells #[.int .i64 (Q : Int), .slice aS (sizeW ws) cS, .slice aN (sizeW ws) cN, .slice aE (sizeW ws) cE] 36) = wp := ⟨_, rfl⟩
    obtain ⟨hbp, p0, p1, p2, p3⟩ := boxP hwp
    rw [hwp]
    have HBp := hid (bel_step HB1.out hbp)
    have HPv := hid ((hres.keep hbp).pval (by omega))
    have HNx := hid (HPv.out.nat HM.out).nx
    clear hwp hbp hb1 hres HBd
    generalize w1.heap.size = g at *
    go_upto_region 5 with (go_at_call 48; refine (HTab.out _ _ _ _ HPv.out).mono ?_; rintro e w2 ⟨u, T, rfl, hT, hMt, hb2⟩; have HB2 := hid (bel_step HBp.out hb2); have HNx := hid (HNx.out.below hb2); have p2 := keeps hb2 p2; obtain ⟨aT, cT, rfl, hcT, hcT2⟩ := hMt.slice)
    have HMt := hid hMt
    have HT := hid hT
    have hcl : Closed (sizeW ws) Q (nxN ws) := fun a _ b _ => HM.out.lt a b
    have HBd := hid (fun s hs t ht => tab_bound hcl hT.toPreTab (s := s) (t := t) hs ht)
    have HLo := hid (fun s hs t ht => hT.low (s := s) (t := t) hs ht)
    have HLt := hid HM.out.lt
    have HGr := hid (show greatN (sizeW ws) ((Q : Int)).toNat (nxN ws) T = g1 (fun s a b => T (nxN ws s a) (nxN ws s b)) Q (sizeW ws) from rfl)
    clear hMt hT hb2 hcl HTab hm hA hE p0 p1 p3
    generalize hn : sizeW ws = n at *
    have hn2 : n * n ≤ 4096 := by have := Nat.mul_le_mul h64 h64; omega
    have HN2 := hid hn2
    clear hn2
    go_wp2_with fail
    go_loopw [8, 28] (fun u i wr => ∃ k : Nat, k ≤ n ∧ i = .int .i64 k ∧ Dr w2 wr ∧ ∃ m : Int, u = .int .i64 m ∧ Hid (g1 (fun s a b => T (nxN ws s a) (nxN ws s b)) Q k = some m)) (fun _ i _ => n - (intOf i).toNat)
    case atStart => exact ⟨0, Nat.zero_le _, rfl, Dr.refl _, 0, rfl, hid rfl⟩
    case round =>
      obtain ⟨k, hk, rfl, hD, m, rfl, HG⟩ := hrel
      have HD := hid hD
      have p2r := keeps (hD.below _) p2
      by_cases hlt : k < n
      · obtain ⟨b, o, r, c, e1, n1, hrow⟩ := HNx.out.row hlt
        subst e1
        have n1 := keeps (hD.below _) n1
        have HRow := hid hrow
        clear hD hrow
        go_wp2_with fail
        go_loopw [8, 34] (fun u i wr => ∃ a : Nat, a ≤ Q ∧ i = .int .i64 a ∧ Dr w2 wr ∧ ∃ m : Int, u = .int .i64 m ∧ Hid (gAt (fun s a b => T (nxN ws s a) (nxN ws s b)) Q k a 0 = some m)) (fun _ i _ => Q - (intOf i).toNat)
        case atStart => exact ⟨0, Nat.zero_le _, rfl, HD.out, m, rfl, hid HG.out⟩
        case round =>
          obtain ⟨a, ha, rfl, hDa, m1, rfl, HGa⟩ := hrel
          have HDa := hid hDa
          clear HD
          by_cases hla : a < Q
          · obtain ⟨b1, o1, ea, n2⟩ := (HRow.out.dr hDa).cell (rowV_get (fun j => ((nxN ws k j : Nat) : Int)) hla)
            subst ea
            clear hDa
            go_wp2_with fail
            go_loopw [8, 40] (fun u i wr => ∃ b : Nat, b ≤ Q ∧ i = .int .i64 b ∧ Dr w2 wr ∧ ∃ m : Int, u = .int .i64 m ∧ Hid (gAt (fun s a b => T (nxN ws s a) (nxN ws s b)) Q k a b = some m)) (fun _ i _ => Q - (intOf i).toNat)
            case atStart => exact ⟨0, Nat.zero_le _, rfl, HDa.out, m1, rfl, hid HGa.out⟩
            case round =>
              obtain ⟨b2, hb2, rfl, hDb, m2, rfl, HGb⟩ := hrel
              have HDb := hid hDb
              clear HDa
              by_cases hlb : b2 < Q
              · obtain ⟨b3, o3, ea, n3⟩ := (HRow.out.dr hDb).cell (rowV_get (fun j => ((nxN ws k j : Nat) : Int)) hlb)
                simp only [Option.some.injEq, Addr.mk.injEq, and_true] at ea
                obtain ⟨rfl, rfl⟩ := ea
                have hc1 := HLt.out k a
                have hc2 := HLt.out k b2
                obtain ⟨b5, o5, b6, o6, k6, e5, n5, n6⟩ := (HMt.out.dr hDb).cell hc1 hc2
                subst e5
                have hTT := HBd.out _ hc1 _ hc2
                have hTl := HLo.out _ hc1 _ hc2
                have hN2 := HN2.out
                have HNext := hid (fun h0 : ¬ T (nxN ws k a) (nxN ws k b2) < 0 => gAt_next (f := fun s a b => T (nxN ws s a) (nxN ws s b)) HGb.out rfl h0)
                have HFail := hid (fun h0 : T (nxN ws k a) (nxN ws k b2) < 0 => gAt_fail (f := fun s a b => T (nxN ws s a) (nxN ws s b)) HGb.out rfl h0 hlt hla hlb)
                generalize nxN ws k a = x1 at *
                generalize nxN ws k b2 = x2 at *
                generalize T x1 x2 = K at *
                clear hDb
                by_cases hK : K = -1
                · have HR := hid (HGr.out.trans (HFail.out (by omega)))
                  have hb : (K == -1) = true := by simp [hK]
                  clear HNext HFail
                  go_wp2
                  go_ret3
                  subst hn
                  exact gpost_ok none HE.out HT.out HR.out (bel_step HB2.out (HDb.out.below _))
                · have HS := hid (HNext.out (by omega))
                  have hb : (K == -1) = false := by simp [hK]
                  clear HNext HFail
                  go_wp2
                  go_roundw
                  case rel => exact ⟨b2 + 1, by omega, by go_num, HDb.out, _, rfl, HS⟩
                  case measure => simp [intOf]; omega
              · clear hDb
                go_wp2
                go_roundw
                case rel => exact ⟨a + 1, by omega, by go_num, HDb.out, m2, rfl, hid (show gAt (fun s a b => T (nxN ws s a) (nxN ws s b)) Q k a Q = some m2 from (show b2 = Q by omega) ▸ HGb.out)⟩
                case measure => simp [intOf]; omega
          · clear hDa
            go_wp2
            go_roundw
            case rel => exact ⟨k + 1, by omega, by go_num, HDa.out, m1, rfl, hid (show gAt (fun s a b => T (nxN ws s a) (nxN ws s b)) Q k Q 0 = some m1 from (show a = Q by omega) ▸ HGa.out)⟩
            case measure => simp [intOf]; omega
      · have e : k = n := by omega
        have HR := hid (HGr.out.trans (e ▸ HG.out))
        clear hD e
        go_wp2
        go_ret3
        subst hn
        exact gpost_ok (some m) HE.out HT.out HR.out (bel_step HB2.out (HD.out.below _))
  · have hE2 : (rErr q ws [] != 0) = true := by simp [hE]
    go_wp2_with (go_at_call 39; refine (HBd.out _ (HL.out.below (bel_alloc _ _))).mono ?_; rintro e w1 (⟨_, rfl, hb1⟩ | ⟨h0, _⟩); rotate_left; (exact absurd h0 hE); unfold nilP; have HB1 := hid (bel_step (bel_alloc _ _) hb1))
    go_ret3
    exact .inl ⟨hE, rfl, bel_step HB1.out (bel_alloc _ _)⟩
end Go.Proofs.Ytalklhjmnoodeaa
