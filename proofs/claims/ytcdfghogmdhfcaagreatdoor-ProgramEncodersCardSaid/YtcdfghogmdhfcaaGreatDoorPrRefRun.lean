/-
  The reference's compute and Run: the outputs of a program, as a string.
  No condition beyond the instructions and the outputs lying in slices, and the string's length.
-/
import Derived.Test.YtcdfghogmdhfcaaGreatDoorPrRef
import Derived.Test.YtcdfghogmdhfcaaGreatDoorMg29
import Derived.Deep.QuietTactic
import Derived.BigQuiet
import Derived.Laws.IdiomStrings
namespace Go.Proofs.YtcdfghogmdhfcaaGreatDoor
open Go.RowKit
set_option linter.unusedVariables false

def byteN (b : Bool) : Int := if b then 49 else 48
/-- Bits as letters 0 and 1. -/
def u8c (l : List Bool) : List Value := l.map fun b => .int .u8 (byteN b)
theorem u8c_len (l : List Bool) : (u8c l).length = l.length := by simp [u8c]
theorem u8c_get {l : List Bool} {k : Nat} (h : k < l.length) : (u8c l)[k]? = some (.int .u8 (byteN (l.getD k false))) := by simp [u8c, h]
theorem u8c_snoc (l : List Bool) (b : Bool) : u8c (l ++ [b]) = u8c l ++ [.int .u8 (byteN b)] := by simp [u8c]
theorem u8c_bits {s : ByteArray} (h : okBits s = true) : (s.data.toList.map fun b => Value.int .u8 b.toNat) = u8c (bitsB s) := by
  unfold okBits at h
  rw [List.all_eq_true] at h
  unfold u8c bitsB
  rw [List.map_map]
  refine List.map_congr_left fun c hc => ?_
  have := h c hc
  simp at this
  rcases this with rfl | rfl <;> rfl
theorem u8c_out (l : List Bool) : u8c l = (outC l).map fun b => Value.int .u8 b.toNat := by
  unfold u8c outC
  rw [List.map_map]
  exact List.map_congr_left fun b _ => by cases b <;> rfl
theorem rowM_at {w : World} {base n j : Nat} {g cap : Nat} {l : List Bool} (h : RowM w base (.slice (some ⟨g, 0, none⟩) n cap) n (u8c l)) (hj : j < l.length) : w.cell? ⟨g, j, none⟩ = some (.int .u8 (byteN (l.getD j false))) := by
  obtain ⟨g', cap', e, _, _, _, _, hc⟩ := h.slice
  simp only [Value.slice.injEq, Option.some.injEq, Addr.mk.injEq, and_true] at e
  obtain ⟨rfl, _, _⟩ := e
  exact hc j _ (u8c_get hj)

theorem run_convert_bytes_nil (w : World) : (convert 54 9 (.slice none 0 0)).run Tryz.prog w = .ok (.string ⟨[].toArray⟩) w := by kernel_rfl
set_option maxRecDepth 100000 in
set_option maxHeartbeats 8000000 in
theorem compute_any (n : Int) (vc vo : Value) (c : List Ins) (o : List Int) (s : ByteArray) (w : World) (hc : Sl 3 w vc c.length (icells c)) (ho : Sl 1 w vo o.length (ints o)) (hs : okBits s = true) (hn : (s.size : Int) = n) (he : progErr n c o = 0) :
    Calls Tryz.prog 65 #[.agg #[.int .i64 n, vc, vo], .string s] w fun e w' => e = .returned (.string (bitS (poutsV (bitsB s) c o))) ∧ Below w.heap.size w w' := by
  have HC := hid hc
  have HO := hid ho
  obtain ⟨hn0, hn24, hc6, ho6, hce, hoe⟩ := progErr_zero.1 he
  have HCE := hid (pcodeErr_at.1 hce)
  have HOE := hid hoe
  obtain ⟨ac, cc, rfl, _, hc1, hc2, hc3⟩ := hc
  obtain ⟨ao, co, rfl, _, ho1, ho2, ho3⟩ := ho
  have hsz : s.size ≤ 24 := by omega
  have HUB := hid (u8c_bits hs)
  clear hc3 ho3 he hce hoe hs
  subst hn
  go_enter Tryz.func65, Tryz.ntmps65
  go_upto_region 1 with fail
  obtain ⟨w0, hw0⟩ : ∃ w0, w.alloc (.cells #[.int .i64 (s.size : Int), .slice ac c.length cc, .slice ao o.length co] 28) = w0 := ⟨_, rfl⟩
  obtain ⟨hb0, c0, c1, c2⟩ := boxP hw0
  rw [hw0]
  have HB0 := hid hb0
  clear hw0 hb0
  obtain ⟨wb, hwb⟩ : ∃ wb, Lib.bytesWorld w0 5 s = wb := ⟨_, rfl⟩
  have hcv := Lib.run_convert_string_bytes (P := Tryz.prog) w0 9 54 5 s Tryz.underlying9 Tryz.underlying54 Tryz.underlying5
  rw [hwb] at hcv
  obtain ⟨hbb, hM0⟩ := rowM_made hwb (by unfold maxLen; omega)
  rw [HUB.out] at hM0
  have HM0 := hid hM0
  have e1 := keeps hbb c1
  have HBb := hid hbb
  generalize hcap : grownCap w0 s.size 0 5 = capb at *
  have HLb := hid (bitsB_len s)
  generalize hl : bitsB s = l at *
  have HL := hid hl
  clear hwb hbb hM0 hcap hl HUB
  go_wp2_with fail
  clear hcv e1
  go_loopw [5, 6] (fun vv i wr => ∃ k : Nat, k ≤ c.length ∧ i = .int .i64 k ∧ Below w0.heap.size w0 wr ∧ RowM wr w0.heap.size vv (s.size + k) (u8c (pvals l (c.take k)))) (fun _ i _ => c.length - (intOf i).toNat)
  case atStart => exact ⟨0, Nat.zero_le _, rfl, HBb.out, HM0.out⟩
  case round =>
    obtain ⟨k, hk, rfl, hbr, hM⟩ := hrel
    obtain ⟨gr, capr, rfl, hcr1, hcr2, hgr1, hgr2, _⟩ := id hM.slice
    have HM := hid hM
    have HBr := hid hbr
    have d0 := keeps hbr c0
    have d1 := keeps hbr c1
    have d2 := keeps hbr c2
    have C0 := hid (And.intro c0 (And.intro c1 c2))
    clear c0 c1 c2 hbr hM
    rename World => wm
    by_cases hlt : k < c.length
    · obtain ⟨x, hx⟩ := some_of_lt hlt
      have hv := insErr_zero.1 (HCE.out k x hx)
      have HT := hid (show c.take (k + 1) = c.take k ++ [x] from take_snoc hx)
      have HPv := hid (pvals_snoc l (c.take k) x)
      have HPl := hid (show (pvals l (c.take k)).length = s.size + k by rw [pvals_len, List.length_take, HLb.out]; omega)
      obtain ⟨b, off, rfl, x0, x1, x2⟩ := Sl.ins ((HC.out.below HB0.out).below HBr.out) hx
      clear hx
      obtain ⟨op, a, bb⟩ := x
      go_upto_region 6 with fail
      obtain ⟨wx, hwx⟩ : ∃ wx, wm.alloc (.cells #[.int .i64 op, .int .i64 a, .int .i64 bb] 47) = wx := ⟨_, rfl⟩
      obtain ⟨hbx, y0, y1, y2⟩ := boxI (x := ⟨op, a, bb⟩) hwx
      simp only at y0 y1 y2
      rw [hwx]
      have HBx := hid (HBr.out.trans (hbx.mono HBr.out.size))
      have HMx := hid (HM.out.below hbx)
      clear hwx hbx x0 x1 x2 d0 d1 d2 HBr HM
      generalize wm.heap.size = gx at *
      rcases hv with ⟨h1, h2, h3⟩ | ⟨h1, h2, h3, h4⟩ | ⟨h1, h2, h3, h4, h5⟩
      · simp only at h1 h2 h3
        subst h2 h3
        rcases h1 with rfl | rfl
        · simp only [opB1] at HPv
          go_wp2_with (at_builtin; refine wpList_pushM wx rfl _ _ 54 rfl w0.heap.size Tryz.underlying54 Tryz.infoU8 (.slice (some ⟨gr, 0, none⟩) (s.size + k) capr) (s.size + k) (u8c (pvals l (c.take k))) rfl HMx.out (.int .u8 48) rfl rfl (by omega) ?_; intro v5 w5 hM5 hb5)
          go_roundw
          case rel => exact ⟨k + 1, by omega, by go_num, HBx.out.trans hb5, by rw [HT.out, HPv.out, u8c_snoc]; exact hM5⟩
          case measure => simp [intOf]; omega
        · simp only [opB2] at HPv
          go_wp2_with (at_builtin; refine wpList_pushM wx rfl _ _ 54 rfl w0.heap.size Tryz.underlying54 Tryz.infoU8 (.slice (some ⟨gr, 0, none⟩) (s.size + k) capr) (s.size + k) (u8c (pvals l (c.take k))) rfl HMx.out (.int .u8 49) rfl rfl (by omega) ?_; intro v5 w5 hM5 hb5)
          go_roundw
          case rel => exact ⟨k + 1, by omega, by go_num, HBx.out.trans hb5, by rw [HT.out, HPv.out, u8c_snoc]; exact hM5⟩
          case measure => simp [intOf]; omega
      · simp only at h1 h2 h3 h4
        subst h1 h4
        have va := rowM_at (j := a.toNat) HMx.out (by rw [HPl.out]; omega)
        have ha : a < (s.size : Int) + k := by omega
        rw [opB_not] at HPv
        generalize (pvals l (c.take k)).getD a.toNat false = A at *
        cases A with
        | false =>
          have va : wx.cell? ⟨gr, a.toNat, none⟩ = some (.int .u8 48) := va
          go_wp2_with (at_builtin; refine wpList_pushM wx rfl _ _ 54 rfl w0.heap.size Tryz.underlying54 Tryz.infoU8 (.slice (some ⟨gr, 0, none⟩) (s.size + k) capr) (s.size + k) (u8c (pvals l (c.take k))) rfl HMx.out (.int .u8 49) rfl rfl (by omega) ?_; intro v5 w5 hM5 hb5)
          go_roundw
          case rel => exact ⟨k + 1, by omega, by go_num, HBx.out.trans hb5, by rw [HT.out, HPv.out, u8c_snoc]; exact hM5⟩
          case measure => simp [intOf]; omega
        | true =>
          have va : wx.cell? ⟨gr, a.toNat, none⟩ = some (.int .u8 49) := va
          go_wp2_with (at_builtin; refine wpList_pushM wx rfl _ _ 54 rfl w0.heap.size Tryz.underlying54 Tryz.infoU8 (.slice (some ⟨gr, 0, none⟩) (s.size + k) capr) (s.size + k) (u8c (pvals l (c.take k))) rfl HMx.out (.int .u8 48) rfl rfl (by omega) ?_; intro v5 w5 hM5 hb5)
          go_roundw
          case rel => exact ⟨k + 1, by omega, by go_num, HBx.out.trans hb5, by rw [HT.out, HPv.out, u8c_snoc]; exact hM5⟩
          case measure => simp [intOf]; omega
      · simp only at h1 h2 h3 h4 h5
        have va := rowM_at (j := a.toNat) HMx.out (by rw [HPl.out]; omega)
        have vb := rowM_at (j := bb.toNat) HMx.out (by rw [HPl.out]; omega)
        have ha : a < (s.size : Int) + k := by omega
        have hb : bb < (s.size : Int) + k := by omega
        generalize (pvals l (c.take k)).getD a.toNat false = A at *
        generalize (pvals l (c.take k)).getD bb.toNat false = B at *
        rcases h1 with rfl | rfl
        · rw [opB_and] at HPv
          cases A with
          | false =>
            have va : wx.cell? ⟨gr, a.toNat, none⟩ = some (.int .u8 48) := va
            cases B with
            | false =>
              have vb : wx.cell? ⟨gr, bb.toNat, none⟩ = some (.int .u8 48) := vb
              go_upto_region 11 with fail
              go_quiet (fail)
              go_wp2_with (at_builtin; refine wpList_pushM _ rfl _ _ 54 rfl w0.heap.size Tryz.underlying54 Tryz.infoU8 (.slice (some ⟨gr, 0, none⟩) (s.size + k) capr) (s.size + k) (u8c (pvals l (c.take k))) rfl (by exact HMx.out.below (below_drewN (Below.refl _ _) _)) (.int .u8 48) rfl rfl (by omega) ?_; intro v5 w5 hM5 hb5)
              go_roundw
              case rel => exact ⟨k + 1, by omega, by go_num, (below_drewN HBx.out _).trans hb5, by rw [HT.out, HPv.out, u8c_snoc]; exact hM5⟩
              case measure => simp [intOf]; omega
            | true =>
              have vb : wx.cell? ⟨gr, bb.toNat, none⟩ = some (.int .u8 49) := vb
              go_upto_region 11 with fail
              go_quiet (fail)
              go_wp2_with (at_builtin; refine wpList_pushM _ rfl _ _ 54 rfl w0.heap.size Tryz.underlying54 Tryz.infoU8 (.slice (some ⟨gr, 0, none⟩) (s.size + k) capr) (s.size + k) (u8c (pvals l (c.take k))) rfl (by exact HMx.out.below (below_drewN (Below.refl _ _) _)) (.int .u8 48) rfl rfl (by omega) ?_; intro v5 w5 hM5 hb5)
              go_roundw
              case rel => exact ⟨k + 1, by omega, by go_num, (below_drewN HBx.out _).trans hb5, by rw [HT.out, HPv.out, u8c_snoc]; exact hM5⟩
              case measure => simp [intOf]; omega
          | true =>
            have va : wx.cell? ⟨gr, a.toNat, none⟩ = some (.int .u8 49) := va
            cases B with
            | false =>
              have vb : wx.cell? ⟨gr, bb.toNat, none⟩ = some (.int .u8 48) := vb
              go_upto_region 11 with fail
              go_quiet (fail)
              go_wp2_with (at_builtin; refine wpList_pushM _ rfl _ _ 54 rfl w0.heap.size Tryz.underlying54 Tryz.infoU8 (.slice (some ⟨gr, 0, none⟩) (s.size + k) capr) (s.size + k) (u8c (pvals l (c.take k))) rfl (by exact HMx.out.below (below_drewN (Below.refl _ _) _)) (.int .u8 48) rfl rfl (by omega) ?_; intro v5 w5 hM5 hb5)
              go_roundw
              case rel => exact ⟨k + 1, by omega, by go_num, (below_drewN HBx.out _).trans hb5, by rw [HT.out, HPv.out, u8c_snoc]; exact hM5⟩
              case measure => simp [intOf]; omega
            | true =>
              have vb : wx.cell? ⟨gr, bb.toNat, none⟩ = some (.int .u8 49) := vb
              go_upto_region 11 with fail
              go_quiet (fail)
              go_wp2_with (at_builtin; refine wpList_pushM _ rfl _ _ 54 rfl w0.heap.size Tryz.underlying54 Tryz.infoU8 (.slice (some ⟨gr, 0, none⟩) (s.size + k) capr) (s.size + k) (u8c (pvals l (c.take k))) rfl (by exact HMx.out.below (below_drewN (Below.refl _ _) _)) (.int .u8 49) rfl rfl (by omega) ?_; intro v5 w5 hM5 hb5)
              go_roundw
              case rel => exact ⟨k + 1, by omega, by go_num, (below_drewN HBx.out _).trans hb5, by rw [HT.out, HPv.out, u8c_snoc]; exact hM5⟩
              case measure => simp [intOf]; omega
        · rw [opB_xor] at HPv
          cases A with
          | false =>
            have va : wx.cell? ⟨gr, a.toNat, none⟩ = some (.int .u8 48) := va
            cases B with
            | false =>
              have vb : wx.cell? ⟨gr, bb.toNat, none⟩ = some (.int .u8 48) := vb
              go_upto_region 13 with fail
              go_quiet (fail)
              go_wp2_with (at_builtin; refine wpList_pushM _ rfl _ _ 54 rfl w0.heap.size Tryz.underlying54 Tryz.infoU8 (.slice (some ⟨gr, 0, none⟩) (s.size + k) capr) (s.size + k) (u8c (pvals l (c.take k))) rfl (by exact HMx.out.below (below_drewN (Below.refl _ _) _)) (.int .u8 48) rfl rfl (by omega) ?_; intro v5 w5 hM5 hb5)
              go_roundw
              case rel => exact ⟨k + 1, by omega, by go_num, (below_drewN HBx.out _).trans hb5, by rw [HT.out, HPv.out, u8c_snoc]; exact hM5⟩
              case measure => simp [intOf]; omega
            | true =>
              have vb : wx.cell? ⟨gr, bb.toNat, none⟩ = some (.int .u8 49) := vb
              go_upto_region 13 with fail
              go_quiet (fail)
              go_wp2_with (at_builtin; refine wpList_pushM _ rfl _ _ 54 rfl w0.heap.size Tryz.underlying54 Tryz.infoU8 (.slice (some ⟨gr, 0, none⟩) (s.size + k) capr) (s.size + k) (u8c (pvals l (c.take k))) rfl (by exact HMx.out.below (below_drewN (Below.refl _ _) _)) (.int .u8 49) rfl rfl (by omega) ?_; intro v5 w5 hM5 hb5)
              go_roundw
              case rel => exact ⟨k + 1, by omega, by go_num, (below_drewN HBx.out _).trans hb5, by rw [HT.out, HPv.out, u8c_snoc]; exact hM5⟩
              case measure => simp [intOf]; omega
          | true =>
            have va : wx.cell? ⟨gr, a.toNat, none⟩ = some (.int .u8 49) := va
            cases B with
            | false =>
              have vb : wx.cell? ⟨gr, bb.toNat, none⟩ = some (.int .u8 48) := vb
              go_upto_region 13 with fail
              go_quiet (fail)
              go_wp2_with (at_builtin; refine wpList_pushM _ rfl _ _ 54 rfl w0.heap.size Tryz.underlying54 Tryz.infoU8 (.slice (some ⟨gr, 0, none⟩) (s.size + k) capr) (s.size + k) (u8c (pvals l (c.take k))) rfl (by exact HMx.out.below (below_drewN (Below.refl _ _) _)) (.int .u8 49) rfl rfl (by omega) ?_; intro v5 w5 hM5 hb5)
              go_roundw
              case rel => exact ⟨k + 1, by omega, by go_num, (below_drewN HBx.out _).trans hb5, by rw [HT.out, HPv.out, u8c_snoc]; exact hM5⟩
              case measure => simp [intOf]; omega
            | true =>
              have vb : wx.cell? ⟨gr, bb.toNat, none⟩ = some (.int .u8 49) := vb
              go_upto_region 13 with fail
              go_quiet (fail)
              go_wp2_with (at_builtin; refine wpList_pushM _ rfl _ _ 54 rfl w0.heap.size Tryz.underlying54 Tryz.infoU8 (.slice (some ⟨gr, 0, none⟩) (s.size + k) capr) (s.size + k) (u8c (pvals l (c.take k))) rfl (by exact HMx.out.below (below_drewN (Below.refl _ _) _)) (.int .u8 48) rfl rfl (by omega) ?_; intro v5 w5 hM5 hb5)
              go_roundw
              case rel => exact ⟨k + 1, by omega, by go_num, (below_drewN HBx.out _).trans hb5, by rw [HT.out, HPv.out, u8c_snoc]; exact hM5⟩
              case measure => simp [intOf]; omega
    · have hkc : k = c.length := by omega
      have HPv := hid (show c.take k = c by rw [hkc]; exact take_all (Nat.le_refl _))
      have HMv := hid (show RowM wm w0.heap.size (.slice (some ⟨gr, 0, none⟩) (s.size + k) capr) (s.size + k) (u8c (pvals l c)) by have := HM.out; rwa [HPv.out] at this)
      have HLen := hid (show (pvals l c).length = s.size + k by rw [pvals_len, hkc, HLb.out])
      have HBm := hid (HB0.out.trans (HBr.out.mono HB0.out.size))
      have HOm := hid (HO.out.below HBm.out)
      have HKC := hid hkc
      clear hkc C0 HM
      go_wp2_with fail
      go_loopw [9, 10] (fun vv i wr => ∃ j : Nat, j ≤ o.length ∧ i = .int .i64 j ∧ Below wm.heap.size wm wr ∧ wr.ownsRow wm.heap.size 5 1 vv j (u8c (poutsV l c (o.take j)))) (fun _ i _ => o.length - (intOf i).toNat)
      case atStart => exact ⟨0, Nat.zero_le _, rfl, Below.refl _ _, World.ownsRow_nil _ _ _ _⟩
      case round =>
        obtain ⟨j, hj, rfl, hbj, howj⟩ := hrel
        have HBj := hid hbj
        have HOj := hid howj
        have HSj := hid hbj.size
        have d0 := keeps hbj d0
        have d1 := keeps hbj d1
        have d2 := keeps hbj d2
        obtain ⟨aj, cj, rfl⟩ := own_slice howj
        clear hbj
        rename World => wk
        by_cases hlt2 : j < o.length
        · obtain ⟨x, hx⟩ := some_of_lt hlt2
          have hxo := HOE.out x (List.mem_of_getElem? hx)
          have HT := hid (show poutsV l c (o.take (j + 1)) = poutsV l c (o.take j) ++ [(pvals l c).getD x.toNat false] by rw [take_snoc hx]; simp [poutsV])
          obtain ⟨b', o', rfl, e1⟩ := (HOm.out.below HBj.out).cell (ints_get hx)
          have hx1 : x < (s.size : Int) + k := by have := HKC.out; omega
          have hx0 := hxo.1
          have va := rowM_at (j := x.toNat) (HMv.out.below HBj.out) (by rw [HLen.out]; omega)
          clear hx hxo howj
          generalize (pvals l c).getD x.toNat false = X at *
          go_wp2_with (at_builtin; refine wpList_push wk rfl _ _ 54 rfl wm.heap.size 5 (.int .u8 0) 1 1 Tryz.underlying54 Tryz.infoU8 rfl (by decide) (.slice aj j cj) j (u8c (poutsV l c (o.take j))) rfl HOj.out #[.int .u8 (byteN X)] rfl (oneCell_int _ _) rfl (by unfold maxLen; omega) (by omega) HSj.out ?_; intro gv capv w5 hown5 hg5 hb5)
          go_roundw
          case rel => exact ⟨j + 1, by omega, by go_num, HBj.out.trans hb5, by rw [HT.out, u8c_snoc]; exact hown5⟩
          case measure => simp [intOf]; omega
        · have hjo : j = o.length := by omega
          have hout : o.take j = o := take_all (by omega)
          rw [hout] at howj
          have HF := hid (HBm.out.trans (HBj.out.mono HBm.out.size))
          have HStr := hid (show (⟨(outC (poutsV l c o)).toArray⟩ : ByteArray) = bitS (poutsV (bitsB s) c o) by rw [HL.out]; rfl)
          have hcv : (convert 54 9 (.slice aj j cj)).run Tryz.prog wk = .ok (.string ⟨(outC (poutsV l c o)).toArray⟩) wk := by
            have hlen : (outC (poutsV l c o)).length = j := by rw [outC, List.length_map, poutsV_len, hjo]
            rcases howj.2 with ⟨e1, e2⟩ | ⟨g, cap', cur, e1, _⟩
            · simp only [Value.slice.injEq] at e1
              obtain ⟨rfl, e3, rfl⟩ := e1
              have hnil : outC (poutsV l c o) = [] := List.length_eq_zero_iff.1 (by omega)
              rw [hnil, e3]
              exact run_convert_bytes_nil wk
            · simp only [Value.slice.injEq] at e1
              obtain ⟨rfl, _, rfl⟩ := e1
              have := run_convert_bytes_back (P := Tryz.prog) wk 54 9 5 ⟨g, 0, none⟩ cj (outC (poutsV l c o)) Tryz.underlying54 Tryz.underlying5 Tryz.underlying9 (fun q hq => by
                have h2 := howj.cells (g := g) rfl q (.int .u8 ((outC (poutsV l c o))[q].toNat : Int)) (by rw [u8c_out, List.getElem?_map, List.getElem?_eq_getElem hq]; rfl)
                exact h2)
              rwa [hlen] at this
          clear howj hout hjo
          go_wp2
          go_ret
          exact ⟨by rw [← HStr.out]; rfl, HF.out⟩

end Go.Proofs.YtcdfghogmdhfcaaGreatDoor
