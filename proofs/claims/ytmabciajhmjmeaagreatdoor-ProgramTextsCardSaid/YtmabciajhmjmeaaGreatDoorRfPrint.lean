/-
  The reference's Print: the text of a program.
  The program has at most 30 instructions and outputs.
-/
import Derived.Test.YtmabciajhmjmeaaGreatDoorRfParse
import Derived.Test.YtmabciajhmjmeaaGreatDoorRfDec
import Derived.Test.YtmabciajhmjmeaaGreatDoorInsPrt
namespace Go.Proofs.YtmabciajhmjmeaaGreatDoor
open Go.RowKit
set_option linter.unusedVariables false
set_option linter.unusedSimpArgs false

theorem catL (a b : List UInt8) (w : World) (h : a.length + b.length ≤ 1000000) : (Op.stringOp .add ⟨a.toArray⟩ ⟨b.toArray⟩).run Tryz.prog w = .ok (.string ⟨(a ++ b).toArray⟩) w := by
  unfold Op.stringOp
  have h1 : (⟨a.toArray⟩ : ByteArray).size + (⟨b.toArray⟩ : ByteArray).size = a.length + b.length := by
    show a.toArray.size + b.toArray.size = _
    simp
  rw [if_neg (by rw [h1]; show ¬ ((a.length + b.length : Nat) : Int) > 9223372036854775807; omega)]
  have h2 : (⟨a.toArray⟩ : ByteArray) ++ ⟨b.toArray⟩ = ⟨(a ++ b).toArray⟩ := by
    apply ByteArray.ext
    rw [ByteArray.data_append]
    simp
  rw [h2]
  rfl
theorem size_L (l : List UInt8) : (⟨l.toArray⟩ : ByteArray).size = l.length := by show l.toArray.size = _; simp
theorem opWs_L (op : Int) : opWs op = ⟨(opWL op).toArray⟩ := by
  apply ByteArray.ext
  apply Array.toList_inj.1
  rw [opWs_list]
theorem opWL_len (op : Int) : (opWL op).length ≤ 4 := by unfold opWL; split; decide; split; decide; split; decide; split; decide; decide
theorem dgT_len20 {k : Int} (h : k ≤ 1000000) : (dgT k).length ≤ 20 := dec_len20 (by omega)
theorem dec_dg {k : Int} (X : World) (h0 : 0 ≤ k) (h : k ≤ 1000000) : Calls Tryz.prog 22 #[.int .i64 k] X fun e w' => e = .returned (.string ⟨(dgT k).toArray⟩) ∧ Below X.heap.size X w' := by
  have := decimal_any k.toNat X (by omega)
  rw [show ((k.toNat : Nat) : Int) = k by omega] at this
  exact this
set_option maxRecDepth 100000 in
set_option maxHeartbeats 4000000 in
theorem rprint_any (n : Int) (vc vo : Value) (c : List Ins) (o : List Int) (w : World) (hc : Sl 3 w vc c.length (icells c)) (ho : Sl 1 w vo o.length (ints o)) (hc30 : c.length ≤ 30) (ho30 : o.length ≤ 30) :
    Calls Tryz.prog 7 #[.agg #[.int .i64 n, vc, vo]] w fun e w' => e = .returned (.tuple #[.string (printS dgT n c o), .int .i64 (printE dgT n c o)]) ∧ Below w.heap.size w w' := by
  have HC := hid hc
  have HO := hid ho
  have HCk := hid (fun X h1 h2 => rcheck53_any n vc vo c o X h1 h2)
  obtain ⟨ac, cc, rfl, _, hc1, hc2, hc3⟩ := hc
  obtain ⟨ao, co, rfl, _, ho1, ho2, ho3⟩ := ho
  clear hc3 ho3
  by_cases he : progErr n c o = 0
  · obtain ⟨hn0, hn24, hc6, ho6, hce, hoe⟩ := progErr_zero.1 he
    have HCE := hid (pcodeErr_at.1 hce)
    have HOE := hid hoe
    have HDc := hid (fun (k : Int) X (h0 : 0 ≤ k) (h : k < n + c.length + 1) => dec_dg (k := k) X h0 (by omega))
    have HDl := hid (fun (k : Int) (h0 : 0 ≤ k) (h : k < n + c.length + 1) => dgT_len20 (k := k) (by omega))
    have HLk := hid (fun k => show (codeL dgT (c.take k)).length ≤ 30 * 47 from by
      refine Nat.le_trans (codeL_len (c := c.take k) fun x hx y hy => ?_) (Nat.mul_le_mul_right _ (by rw [List.length_take]; omega))
      obtain ⟨i, hi⟩ := List.getElem?_of_mem (List.mem_of_mem_take hx)
      have := ins_nums (HCE.out i x hi) (lt_of_some hi) y hy
      exact HDl.out y this.1 this.2)
    have HPl := hid (show (lineL dgT [112, 114, 111, 103, 114, 97, 109] [n]).length ≤ 29 from Nat.le_trans (lineL_len (wd := [112, 114, 111, 103, 114, 97, 109]) (l := [n]) fun k hk => by
      have : k = n := by simpa using hk
      exact HDl.out k (by omega) (by omega)) (Nat.le_refl 29))
    have HOl := hid (fun k => show (numsL dgT (o.take k)).length ≤ 30 * 21 from
      Nat.le_trans (numsL_len (l := o.take k) fun y hy => by
        have := HOE.out y (List.mem_of_mem_take hy)
        exact HDl.out y (by omega) (by omega)) (Nat.mul_le_mul_right _ (by rw [List.length_take]; omega)))
    have hlenP : (printL dgT n c o).length ≤ 65536 := by
      have h1 := HLk.out c.length
      have h2 := HOl.out o.length
      have h3 := HPl.out
      rw [List.take_length] at h1 h2
      have e1 : (printL dgT n c o).length = (lineL dgT [112, 114, 111, 103, 114, 97, 109] [n]).length + (codeL dgT c).length + (3 + (numsL dgT o).length + 1) := by
        rw [show printL dgT n c o = lineL dgT [112, 114, 111, 103, 114, 97, 109] [n] ++ codeL dgT c ++ lineL dgT [111, 117, 116] o from rfl, List.length_append, List.length_append]
        simp [lineL]
        omega
      omega
    have HPE := hid (show printE dgT n c o = 0 by rw [printE, if_neg (by simp [he]), if_neg (by omega)])
    have HPz := hid (show (printL dgT n c o).length ≤ 65536 from hlenP)
    have HOn := hid (fun (k : Int) (hk : k ∈ o) => (show 0 ≤ k ∧ k < n + c.length + 1 by have := hoe k hk; omega))
    have HPr := hid (show printL dgT n c o = lineL dgT [112, 114, 111, 103, 114, 97, 109] [n] ++ codeL dgT c ++ lineL dgT [111, 117, 116] o from rfl)
    rw [he] at HCk
    clear he hce hoe hlenP HOE
    go_enter Tryz.func7, Tryz.ntmps7
    go_upto_region 1 with fail
    obtain ⟨w0, hw0⟩ : ∃ w0, w.alloc (.cells #[.int .i64 n, .slice ac c.length cc, .slice ao o.length co] 25) = w0 := ⟨_, rfl⟩
    obtain ⟨hb0, c0, c1, c2⟩ := boxP hw0
    rw [hw0]
    have HB0 := hid hb0
    have HS0 := hid (show w0.heap.size = w.heap.size + 1 by rw [← hw0]; simp)
    clear hw0 hb0
    go_upto_region 3 with (go_at_call 21; refine (HCk.out _ (HC.out.below HB0.out) (HO.out.below HB0.out)).mono ?_; rintro e w1 ⟨rfl, hb1⟩; have HB1 := hid (bel_step HB0.out hb1); have c0 := keeps hb1 c0; have c1 := keeps hb1 c1; have c2 := keeps hb1 c2; clear hb1)
    have hDn := HDl.out n (by omega) (by omega)
    have q1 := fun X => catL [112, 114, 111, 103, 114, 97, 109, 32] (dgT n) X (by (try simp); omega)
    have q2 := fun X => catL ([112, 114, 111, 103, 114, 97, 109, 32] ++ dgT n) [10] X (by (try simp); omega)
    have HL0 := hid (show [112, 114, 111, 103, 114, 97, 109, 32] ++ dgT n ++ [10] = lineL dgT [112, 114, 111, 103, 114, 97, 109] [n] by simp [lineL, numsL])
    rw [HL0.out] at q2
    have HDn := hid (fun X => HDc.out n X (by omega) (by omega))
    generalize hdn : dgT n = dn at *
    clear hdn
    generalize ([112, 114, 111, 103, 114, 97, 109, 32] ++ dn : List UInt8) = ph at *
    go_upto_region 4 with (go_at_call 22; refine (HDn.out _).mono ?_; rintro e w2 ⟨rfl, hb2⟩; have HB2 := hid (bel_step HB1.out hb2); have c0 := keeps hb2 c0; have c1 := keeps hb2 c1; have c2 := keeps hb2 c2; clear hb2)
    clear q1 q2 HL0 HDn hDn
    generalize lineL dgT [112, 114, 111, 103, 114, 97, 109] [n] = PR at *
    have hPl := HPl.out
    have C0 := hid (And.intro c1 c2)
    have HSb := hid (show w.heap.size < w2.heap.size by have := HB2.out.size; have := HB1.out.size; have := HB0.out.size; have h := World.block_lt_of_cell? _ _ c0; exact h)
    clear c0 c1 c2
    go_wp2_with fail
    go_loopw [4, 5] (fun s i wr => ∃ (k : Nat) (Z : List UInt8), k ≤ c.length ∧ s = .string ⟨Z.toArray⟩ ∧ i = .int .i64 (k : Int) ∧ Hid (Z = PR ++ codeL dgT (c.take k)) ∧ Hid (Below w2.heap.size w2 wr)) (fun _ i _ => c.length - (intOf i).toNat)
    case atStart => exact ⟨0, PR, Nat.zero_le _, rfl, rfl, hid (by simp [codeL]), hid (Below.refl _ _)⟩
    case round =>
      obtain ⟨k, Z, hk, rfl, rfl, HZ, HBm⟩ := hrel
      rename World => wm
      have c1 := keeps HBm.out C0.out.1
      have c2 := keeps HBm.out C0.out.2
      have hZl : Z.length ≤ 29 + 30 * 47 := by rw [HZ.out, List.length_append]; have := HLk.out k; omega
      have hZs := size_L Z
      have hZI : (Z.length : Int) ≤ 65536 := by omega
      have HBw := hid (HB2.out.trans (HBm.out.mono (by have := HSb.out; omega)))
      by_cases hlt : k < c.length
      · obtain ⟨x, hx⟩ := some_of_lt hlt
        have hv := insErr_zero.1 (HCE.out k x hx)
        have HT := hid (show codeL dgT (c.take (k + 1)) = codeL dgT (c.take k) ++ lineL dgT (opWs x.op).data.toList (insA x) by rw [take_snoc hx, codeL_snoc])
        obtain ⟨bc, off, rfl, x0, x1, x2⟩ := Sl.ins (HC.out.below HBw.out) hx
        have hop : 1 ≤ x.op ∧ x.op ≤ 5 := by rcases hv with ⟨h, _⟩ | ⟨h, _⟩ | ⟨h, _⟩ <;> omega
        have HA := hid (show ∀ y ∈ insA x, 0 ≤ y ∧ y < n + c.length + 1 from ins_nums (HCE.out k x hx) hlt)
        have hU := usedN_three hop.1 hop.2
        clear hx hv
        obtain ⟨op, a, bb⟩ := x
        obtain ⟨hop1, hop5⟩ := hop
        simp only at hop1 hop5 hU
        go_upto_region 8 with fail
        obtain ⟨wx, hwx⟩ : ∃ wx, wm.alloc (.cells #[.int .i64 op, .int .i64 a, .int .i64 bb] 36) = wx := ⟨_, rfl⟩
        obtain ⟨hbx, y0, y1, y2⟩ := boxI (x := ⟨op, a, bb⟩) hwx
        simp only at y0 y1 y2
        rw [hwx]
        have c1 := keeps hbx c1
        have c2 := keeps hbx c2
        have HBx := hid (HBm.out.trans (hbx.mono HBm.out.size))
        have HIns := hid (show insA ⟨op, a, bb⟩ = [a, bb].take (usedN op).toNat from rfl)
        have HUs := hid (fun X => used_any op X)
        have hWl := opWL_len op
        have HWs := hid (show (opWs op).data.toList = opWL op from opWs_list op)
        obtain ⟨K, rfl⟩ : ∃ K : Nat, op = (K : Int) := ⟨op.toNat, by omega⟩
        have HCl := hid (fun X => nm_cell (w := X) (k := K) (by omega) (by omega))
        rw [opWs_L] at HCl
        have HNm := hid (fun X => names_any X)
        generalize opWL (K : Int) = OW at *
        generalize usedN (K : Int) = U at *
        have hK6 : (K : Int) < 6 := by omega
        have hK6n : K < 6 := by omega
        have hK6d : decide (K < 6) = true := by simp [hK6n]
        clear hwx hbx x0 x1 x2
        generalize wm.heap.size = gx at *
        obtain ⟨X, hX⟩ : ∃ X, wx.drew.alloc (.cells nmS 9) = X := ⟨_, rfl⟩
        have hcl := HCl.out wx.drew
        rw [hX] at hcl
        change X.cell? ⟨wx.heap.size, K, none⟩ = some (.string ⟨OW.toArray⟩) at hcl
        have hbX : Below wx.heap.size wx X := by rw [← hX]; exact bel_da
        have HX := hid hX
        have z0 := keeps hbX y0
        have z1 := keeps hbX y1
        have z2 := keeps hbX y2
        have HBX := hid (HBx.out.trans (hbX.mono HBx.out.size))
        clear hX
        refine wp_region_held_drew (S := fun w' => w'.cell? ⟨gx, 0, none⟩ = some (.int .i64 (K : Int))) (by kernel_rfl) (show wx.cell? ⟨gx, 0, none⟩ = some (.int .i64 (K : Int)) from y0) (fun hHeld => ?_)
        change wx.drew.cell? ⟨gx, 0, none⟩ = some (.int .i64 (K : Int)) at hHeld
        refine wpAnyH_take (i := 1) (v := .pointer (some ⟨gx, 0, none⟩)) rfl (by kernel_rfl) (by kernel_rfl) (by kernel_rfl) (fun _ _ _ h => h) (Or.inl ⟨by rfl, fun w hSw => ?_⟩) (by exact hHeld) ?_
        · (try dsimp only at hSw); go_simp
        try simp only [Act.put, List.setIfInBounds_toArray, List.set_cons_zero, List.set_cons_succ, List.getElem_toArray, List.getElem_cons_zero, List.getElem_cons_succ]
        refine wpAnyH_take (i := 2) (v := .int .i64 (K : Int)) rfl (by kernel_rfl) (by kernel_rfl) (by kernel_rfl) (fun _ _ _ h => h) (Or.inl ⟨by rfl, fun w hSw => ?_⟩) (by exact hHeld) ?_
        · (try dsimp only at hSw); go_simp
        try simp only [Act.put, List.setIfInBounds_toArray, List.set_cons_zero, List.set_cons_succ, List.getElem_toArray, List.getElem_cons_zero, List.getElem_cons_succ]
        refine wpAnyH_ready (rs := [0]) (by kernel_rfl) (by simp) (AllReadyH.cons rfl (fun K hK => ?_) AllReadyH.nil)
        go_simp
        (go_at_call 23; refine (HNm.out _).mono ?_; rintro e w' ⟨rfl, hw'⟩; rw [HX.out] at hw'; subst hw')
        try go_wp2_with fail
        refine hK.out _ _ z0 (fun hHeld2 => ?_)
        clear hK K hHeld
        try simp only [Act.put, List.setIfInBounds_toArray, List.set_cons_zero, List.set_cons_succ, List.getElem_toArray, List.getElem_cons_zero, List.getElem_cons_succ]
        refine wpAnyH_take (i := 3) (v := .pointer (some ⟨wx.heap.size, K, none⟩)) rfl (by kernel_rfl) (by kernel_rfl) (by kernel_rfl) (fun _ _ _ h => h) (Or.inl ⟨by rfl, fun w hSw => ?_⟩) (by exact z0) ?_
        · (try dsimp only at hSw); go_simp
        try simp only [Act.put, List.setIfInBounds_toArray, List.set_cons_zero, List.set_cons_succ, List.getElem_toArray, List.getElem_cons_zero, List.getElem_cons_succ]
        refine wpAnyH_ready (rs := [4]) (by kernel_rfl) (by simp) (AllReadyH.cons rfl (fun K hK => ?_) AllReadyH.nil)
        go_simp
        refine hK.out _ _ z0 (fun hHeld3 => ?_)
        clear hK K
        try simp only [Act.put, List.setIfInBounds_toArray, List.set_cons_zero, List.set_cons_succ, List.getElem_toArray, List.getElem_cons_zero, List.getElem_cons_succ]
        refine wpAnyH_take (i := 5) (v := .string ⟨OW.toArray⟩) rfl (by kernel_rfl) (by kernel_rfl) (by kernel_rfl) (fun _ _ _ h => h) (Or.inl ⟨by rfl, fun w hSw => ?_⟩) (by exact z0) ?_
        · (try dsimp only at hSw); go_simp
        try simp only [Act.put, List.setIfInBounds_toArray, List.set_cons_zero, List.set_cons_succ, List.getElem_toArray, List.getElem_cons_zero, List.getElem_cons_succ]
        refine wpAnyH_done (by kernel_rfl) ?_ _
        clear HNm HCl hcl hHeld2 hHeld3 y0 y1 y2 HX
        have hBb := HBX.out.size
        rcases hU with rfl | rfl | rfl
        · clear HDc HDl
          obtain ⟨L1, hL1⟩ : ∃ L : List UInt8, Z ++ OW = L := ⟨_, rfl⟩
          have cL1 := fun X => catL (Z) (OW) X (by (try simp); omega)
          rw [hL1] at cL1
          have lL1 := congrArg List.length hL1
          simp only [List.length_append, List.length_cons, List.length_nil] at lL1
          have HL1 := hid hL1
          clear hL1
          obtain ⟨L2, hL2⟩ : ∃ L : List UInt8, L1 ++ [10] = L := ⟨_, rfl⟩
          have cL2 := fun X => catL (L1) ([10]) X (by (try simp); omega)
          rw [hL2] at cL2
          have lL2 := congrArg List.length hL2
          simp only [List.length_append, List.length_cons, List.length_nil] at lL2
          have HL2 := hid hL2
          clear hL2
          clear lL1 lL2
          go_wp2_with (go_at_call 24; refine (HUs.out _).mono ?_; rintro e w4 ⟨rfl, rfl⟩)
          go_roundw
          case rel => exact ⟨k + 1, L2, by omega, rfl, by go_num, hid (by rw [HT.out, ← HL2.out, ← HL1.out, HZ.out]; simp only [HIns.out, HWs.out]; simp [lineL, numsL]), HBX⟩
          case measure => simp [intOf]; omega
        · have hAm := HA.out a (by rw [HIns.out]; simp)
          have hAl := HDl.out a hAm.1 hAm.2
          have HDa := hid (fun X => HDc.out a X hAm.1 hAm.2)
          have HTx := hid (show lineL dgT OW (insA ⟨(K : Int), a, bb⟩) = OW ++ [32] ++ dgT a ++ [10] by rw [HIns.out]; simp [lineL, numsL])
          clear hAm HDc HDl HA
          generalize dgT a = DA at *
          obtain ⟨L1, hL1⟩ : ∃ L : List UInt8, OW ++ [32] = L := ⟨_, rfl⟩
          have cL1 := fun X => catL (OW) ([32]) X (by (try simp); omega)
          rw [hL1] at cL1
          have lL1 := congrArg List.length hL1
          simp only [List.length_append, List.length_cons, List.length_nil] at lL1
          have HL1 := hid hL1
          clear hL1
          obtain ⟨L2, hL2⟩ : ∃ L : List UInt8, L1 ++ DA = L := ⟨_, rfl⟩
          have cL2 := fun X => catL (L1) (DA) X (by (try simp); omega)
          rw [hL2] at cL2
          have lL2 := congrArg List.length hL2
          simp only [List.length_append, List.length_cons, List.length_nil] at lL2
          have HL2 := hid hL2
          clear hL2
          obtain ⟨L3, hL3⟩ : ∃ L : List UInt8, Z ++ L2 = L := ⟨_, rfl⟩
          have cL3 := fun X => catL (Z) (L2) X (by (try simp); omega)
          rw [hL3] at cL3
          have lL3 := congrArg List.length hL3
          simp only [List.length_append, List.length_cons, List.length_nil] at lL3
          have HL3 := hid hL3
          clear hL3
          obtain ⟨L4, hL4⟩ : ∃ L : List UInt8, L3 ++ [10] = L := ⟨_, rfl⟩
          have cL4 := fun X => catL (L3) ([10]) X (by (try simp); omega)
          rw [hL4] at cL4
          have lL4 := congrArg List.length hL4
          simp only [List.length_append, List.length_cons, List.length_nil] at lL4
          have HL4 := hid hL4
          clear hL4
          clear lL1 lL2 lL3 lL4 hAl
          go_wp2_with (first
            | (go_at_call 24; refine (HUs.out _).mono ?_; rintro e w4 ⟨rfl, rfl⟩)
            | (go_at_call 22; refine (HDa.out _).mono ?_; rintro e w4 ⟨rfl, hb4⟩; have HB4 := hid (HBX.out.trans (hb4.mono hBb)); have z0 := keeps hb4 z0; have z1 := keeps hb4 z1; have z2 := keeps hb4 z2; clear hb4))
          go_roundw
          case rel => exact ⟨k + 1, L4, by omega, rfl, by go_num, hid (by rw [HT.out, ← HL4.out, ← HL3.out, ← HL2.out, ← HL1.out, HZ.out]; simp only [HWs.out, HTx.out]; simp), HB4⟩
          case measure => simp [intOf]; omega
        · have hAm := HA.out a (by rw [HIns.out]; simp)
          have hBm := HA.out bb (by rw [HIns.out]; simp)
          have hAl := HDl.out a hAm.1 hAm.2
          have hBl := HDl.out bb hBm.1 hBm.2
          have HDa := hid (fun X => HDc.out a X hAm.1 hAm.2)
          have HDb := hid (fun X => HDc.out bb X hBm.1 hBm.2)
          have HTx := hid (show lineL dgT OW (insA ⟨(K : Int), a, bb⟩) = OW ++ [32] ++ dgT a ++ [32] ++ dgT bb ++ [10] by rw [HIns.out]; simp [lineL, numsL])
          clear hAm hBm HDc HDl HA
          generalize dgT a = DA at *
          generalize dgT bb = DB at *
          obtain ⟨L1, hL1⟩ : ∃ L : List UInt8, OW ++ [32] = L := ⟨_, rfl⟩
          have cL1 := fun X => catL (OW) ([32]) X (by (try simp); omega)
          rw [hL1] at cL1
          have lL1 := congrArg List.length hL1
          simp only [List.length_append, List.length_cons, List.length_nil] at lL1
          have HL1 := hid hL1
          clear hL1
          obtain ⟨L2, hL2⟩ : ∃ L : List UInt8, L1 ++ DA = L := ⟨_, rfl⟩
          have cL2 := fun X => catL (L1) (DA) X (by (try simp); omega)
          rw [hL2] at cL2
          have lL2 := congrArg List.length hL2
          simp only [List.length_append, List.length_cons, List.length_nil] at lL2
          have HL2 := hid hL2
          clear hL2
          obtain ⟨L3, hL3⟩ : ∃ L : List UInt8, L2 ++ [32] = L := ⟨_, rfl⟩
          have cL3 := fun X => catL (L2) ([32]) X (by (try simp); omega)
          rw [hL3] at cL3
          have lL3 := congrArg List.length hL3
          simp only [List.length_append, List.length_cons, List.length_nil] at lL3
          have HL3 := hid hL3
          clear hL3
          obtain ⟨L4, hL4⟩ : ∃ L : List UInt8, L3 ++ DB = L := ⟨_, rfl⟩
          have cL4 := fun X => catL (L3) (DB) X (by (try simp); omega)
          rw [hL4] at cL4
          have lL4 := congrArg List.length hL4
          simp only [List.length_append, List.length_cons, List.length_nil] at lL4
          have HL4 := hid hL4
          clear hL4
          obtain ⟨L5, hL5⟩ : ∃ L : List UInt8, Z ++ L4 = L := ⟨_, rfl⟩
          have cL5 := fun X => catL (Z) (L4) X (by (try simp); omega)
          rw [hL5] at cL5
          have lL5 := congrArg List.length hL5
          simp only [List.length_append, List.length_cons, List.length_nil] at lL5
          have HL5 := hid hL5
          clear hL5
          obtain ⟨L6, hL6⟩ : ∃ L : List UInt8, L5 ++ [10] = L := ⟨_, rfl⟩
          have cL6 := fun X => catL (L5) ([10]) X (by (try simp); omega)
          rw [hL6] at cL6
          have lL6 := congrArg List.length hL6
          simp only [List.length_append, List.length_cons, List.length_nil] at lL6
          have HL6 := hid hL6
          clear hL6
          clear lL1 lL2 lL3 lL4 lL5 lL6 hAl hBl
          have HUg := hid (HUs.out)
          go_upto_region 11 with (first
            | (go_at_call 24; refine (HUs.out _).mono ?_; rintro e w4 ⟨rfl, rfl⟩)
            | (go_at_call 22; refine (HDa.out _).mono ?_; rintro e w4 ⟨rfl, hb4⟩; have HB4 := hid (HBX.out.trans (hb4.mono hBb)); have z0 := keeps hb4 z0; have z1 := keeps hb4 z1; have z2 := keeps hb4 z2; clear hb4))
          have hB4 := HB4.out.size
          go_wp2_with (first
            | (go_at_call 24; refine (HUs.out _).mono ?_; rintro e w5 ⟨rfl, rfl⟩)
            | (go_at_call 22; refine (HDb.out _).mono ?_; rintro e w6 ⟨rfl, hb6⟩; have HB6 := hid (HB4.out.trans (hb6.mono hB4)); have z0 := keeps hb6 z0; have z1 := keeps hb6 z1; have z2 := keeps hb6 z2; clear hb6))
          go_roundw
          case rel => exact ⟨k + 1, L6, by omega, rfl, by go_num, hid (by rw [HT.out, ← HL6.out, ← HL5.out, ← HL4.out, ← HL3.out, ← HL2.out, ← HL1.out, HZ.out]; simp only [HWs.out, HTx.out]; simp), HB6⟩
          case measure => simp [intOf]; omega
      · have HA := hid (show codeL dgT (c.take k) = codeL dgT c by rw [take_all (by omega)])
        have HZ := hid (show Z = PR ++ codeL dgT c by rw [HZ.out, HA.out])
        have hkI : ¬ (k : Int) < (c.length : Int) := by omega
        obtain ⟨Z0, hZ0⟩ : ∃ L : List UInt8, Z ++ [111, 117, 116] = L := ⟨_, rfl⟩
        have cZ0 := fun X => catL Z [111, 117, 116] X (by (try simp); omega)
        rw [hZ0] at cZ0
        have HZ0 := hid (show Z0 = PR ++ codeL dgT c ++ [111, 117, 116] by rw [← hZ0, HZ.out])
        have hZ0l : Z0.length ≤ 1500 := by rw [← hZ0]; simp; omega
        clear hZ0 HZ
        go_wp2_with fail
        go_loopw [4, 8] (fun s i wr => ∃ (j : Nat) (Y : List UInt8), j ≤ o.length ∧ s = .string ⟨Y.toArray⟩ ∧ i = .int .i64 (j : Int) ∧ Hid (Y = Z0 ++ numsL dgT (o.take j)) ∧ Hid (Below wm.heap.size wm wr)) (fun _ i _ => o.length - (intOf i).toNat)
        case atStart => exact ⟨0, Z0, Nat.zero_le _, rfl, rfl, hid (by simp [numsL]), hid (Below.refl _ _)⟩
        case round =>
          obtain ⟨j, Y, hj, rfl, rfl, HY, HBn⟩ := hrel
          rename World => wn
          have c1 := keeps HBn.out c1
          have c2 := keeps HBn.out c2
          have hYl : Y.length ≤ 1500 + 30 * 21 := by rw [HY.out, List.length_append]; have := HOl.out j; omega
          have hYs := size_L Y
          have hYI : (Y.length : Int) ≤ 65536 := by omega
          by_cases hjo : j < o.length
          · obtain ⟨x, hx⟩ := some_of_lt hjo
            have HT := hid (show numsL dgT (o.take (j + 1)) = numsL dgT (o.take j) ++ 32 :: dgT x by rw [take_snoc hx, numsL_snoc])
            obtain ⟨bo, oo, rfl, x0⟩ := Sl.cell ((HO.out.below HBw.out).below HBn.out) (k := j) (x := .int .i64 x) (by rw [ints, List.getElem?_map, hx]; rfl)
            have hxm := HOn.out x (List.mem_of_getElem? hx)
            have hDl := HDl.out x hxm.1 hxm.2
            have HDx := hid (fun X => HDc.out x X hxm.1 hxm.2)
            have hBn := HBn.out.size
            clear hx hxm
            generalize dgT x = DX at *
            obtain ⟨L1, hL1⟩ : ∃ L : List UInt8, Y ++ [32] = L := ⟨_, rfl⟩
            have cL1 := fun X => catL (Y) ([32]) X (by (try simp); omega)
            rw [hL1] at cL1
            have lL1 := congrArg List.length hL1
            simp only [List.length_append, List.length_cons, List.length_nil] at lL1
            have HL1 := hid hL1
            clear hL1
            obtain ⟨L2, hL2⟩ : ∃ L : List UInt8, L1 ++ DX = L := ⟨_, rfl⟩
            have cL2 := fun X => catL (L1) (DX) X (by (try simp); omega)
            rw [hL2] at cL2
            have lL2 := congrArg List.length hL2
            simp only [List.length_append, List.length_cons, List.length_nil] at lL2
            have HL2 := hid hL2
            clear hL2
            clear lL1 lL2 hDl
            go_wp2_with (go_at_call 22; refine (HDx.out _).mono ?_; rintro e w6 ⟨rfl, hb6⟩; have HB6 := hid (HBn.out.trans (hb6.mono hBn)); clear hb6)
            go_roundw
            case rel => exact ⟨j + 1, L2, by omega, rfl, by go_num, hid (by rw [HT.out, ← HL2.out, ← HL1.out, HY.out]; simp), HB6⟩
            case measure => simp [intOf]; omega
          · have HA2 := hid (show numsL dgT (o.take j) = numsL dgT o by rw [take_all (by omega)])
            obtain ⟨F, hF⟩ : ∃ L : List UInt8, Y ++ [10] = L := ⟨_, rfl⟩
            have cF := fun X => catL Y [10] X (by (try simp); omega)
            rw [hF] at cF
            have HF := hid (show F = printL dgT n c o by rw [← hF, HY.out, HA2.out, HZ0.out, HPr.out]; simp [lineL])
            have hFl : F.length ≤ 65536 := by rw [HF.out]; exact HPz.out
            have hFs := size_L F
            have hFI : ¬ (65536 : Int) < (F.length : Int) := by omega
            have hjI : ¬ (j : Int) < (o.length : Int) := by omega
            clear hF
            go_wp2
            go_ret2
            rw [HF.out]
            exact ⟨ret_print0 HPE.out, HBw.out.trans (HBn.out.mono (by have := HBm.out.size; have := HSb.out; omega))⟩
  · have hE1 : (progErr n c o != 0) = true := by simpa using he
    have h1 := hid (show printE dgT n c o = 1 by rw [printE, if_pos he])
    generalize progErr n c o = E at *
    go_enter Tryz.func7, Tryz.ntmps7
    go_upto_region 1 with fail
    obtain ⟨w0, hw0⟩ : ∃ w0, w.alloc (.cells #[.int .i64 n, .slice ac c.length cc, .slice ao o.length co] 25) = w0 := ⟨_, rfl⟩
    obtain ⟨hb0, c0, c1, c2⟩ := boxP hw0
    rw [hw0]
    have HB0 := hid hb0
    clear hw0 hb0
    go_wp2_with (go_at_call 21; refine (HCk.out _ (HC.out.below HB0.out) (HO.out.below HB0.out)).mono ?_; rintro e w1 ⟨rfl, hb1⟩)
    go_ret2
    exact ⟨ret_print h1.out (by decide), bel_step HB0.out hb1⟩
end Go.Proofs.YtmabciajhmjmeaaGreatDoor
