/-
  Whether a program says what an encoder does: program.Agree and the reference's, at any encoder and program. (Printed by wip/tools/fitag.py.)
  No condition beyond the rows lying in slices. At most 64 inputs where the encoder is valid.
-/
import Derived.Test.YtcdfghogmdhfcaaGreatDoorFitS
namespace Go.Proofs.YtcdfghogmdhfcaaGreatDoor
open Go.RowKit Go.Deep
set_option linter.unusedVariables false
set_option linter.unusedSimpArgs false

theorem eqCl_comm (a b : Cl) : eqCl a b = eqCl b a := by
  unfold eqCl
  rw [decide_eq_decide.2 (show a.st = b.st ↔ b.st = a.st from eq_comm), decide_eq_decide.2 (show a.word = b.word ↔ b.word = a.word from eq_comm)]
theorem run_cell_in (x y : Cl) (w : World) : (Op.equalIn 10000 45 (.agg #[.int .i64 x.st, .string x.word]) (.agg #[.int .i64 y.st, .string y.word])).run Tryz.prog w = .ok (eqCl x y) w := by
  have u3 := Tryz.underlying3
  have a3 := Tryz.isAgg3
  have z3 := Tryz.sizeOf3
  have u9 := Tryz.underlying9
  have a9 := Tryz.isAgg9
  have z9 := Tryz.sizeOf9
  have hS : Tryz.prog.underlying 45 = some (.struct (Tryz.prog.fieldsOf 45)) := by kernel_rfl
  have hp : Tryz.prog.stoodInHeld 45 = false := by kernel_rfl
  rw [show (10000 : Nat) = 9999 + 1 from rfl, run_equalIn_agg w 9999 45 _ _ hS hp]
  simp only [Program.fieldsOf, Tryz.underlying45]
  go_simp
  obtain ⟨a, b⟩ := x
  obtain ⟨d, e⟩ := y
  have hb : b.toList = e.toList ↔ b = e := by
    rw [Lib.toList_data, Lib.toList_data]
    exact ⟨fun h => ba_ext h, fun h => by rw [h]⟩
  unfold eqCl
  by_cases h1 : a = d <;> by_cases h2 : b = e <;> simp [h1, h2, hb]
theorem run_neq_cell (x y : Cl) (w : World) : (binOp .neq 45 (.agg #[.int .i64 x.st, .string x.word]) (.agg #[.int .i64 y.st, .string y.word])).run Tryz.prog w = .ok (.bool (!eqCl x y)) w := by
  rw [run_neq_struct, run_cell_in]; rfl
theorem guard_cell (op : BinOp) (p q : Operand) (x y : Cl) (w : World) : (eqGuard op 45 p q (.agg #[.int .i64 x.st, .string x.word]) (.agg #[.int .i64 y.st, .string y.word])).run Tryz.prog w = .ok () w := run_eqGuard_agg w op _ _ _ _ _ (by kernel_rfl)
def agreeR (q bl I : Int) (rows : List (List Cl)) (n : Int) (c : List Ins) (o : List Int) : Bool × Int := if fitV q bl I rows n c o ≠ 0 then (false, fitV q bl I rows n c o) else (agreeV q.toNat bl.toNat I.toNat rows c o, 0)
/-- The cells below s, and those of s below k, are said. -/
def Said (q bl I : Nat) (rows : List (List Cl)) (c : List Ins) (o : List Int) (s k : Nat) : Prop := ∀ i j, (i < s ∧ j < I) ∨ (i = s ∧ j < k) → eqCl ((rows.getD i []).getD j ⟨0, ⟨#[]⟩⟩) (sayCl q bl I rows.length c o i j) = true
section
variable {q bl I : Nat} {rows : List (List Cl)} {c : List Ins} {o : List Int} {s k : Nat}
theorem Said.next (h : Said q bl I rows c o s k) (e : eqCl ((rows.getD s []).getD k ⟨0, ⟨#[]⟩⟩) (sayCl q bl I rows.length c o s k) = true) : Said q bl I rows c o s (k + 1) := by
  intro i j hij
  rcases hij with h1 | ⟨rfl, h1⟩
  · exact h i j (.inl h1)
  · by_cases e2 : j = k
    · subst e2; exact e
    · exact h _ j (.inr ⟨rfl, by omega⟩)
theorem Said.row (h : Said q bl I rows c o s I) : Said q bl I rows c o (s + 1) 0 := by
  intro i j hij
  rcases hij with ⟨h1, h2⟩ | ⟨_, h1⟩
  · by_cases e : i = s
    · exact h i j (.inr ⟨e, h2⟩)
    · exact h i j (.inl ⟨by omega, h2⟩)
  · omega
theorem Said.all (h : Said q bl I rows c o rows.length 0) : agreeV q bl I rows c o = true := by
  unfold agreeV
  rw [List.all_eq_true]
  intro i hi
  rw [List.all_eq_true]
  intro j hj
  exact h i j (.inl ⟨List.mem_range.1 hi, List.mem_range.1 hj⟩)
theorem said_not (hs : s < rows.length) (hk : k < I) (e : ¬ eqCl ((rows.getD s []).getD k ⟨0, ⟨#[]⟩⟩) (sayCl q bl I rows.length c o s k) = true) : agreeV q bl I rows c o = false := by
  apply Bool.eq_false_iff.2
  intro h
  unfold agreeV at h
  exact e (List.all_eq_true.1 (List.all_eq_true.1 h s (List.mem_range.2 hs)) k (List.mem_range.2 hk))
theorem cell_get {row : List Cl} {x : Cl} (h1 : rows[s]? = some row) (h2 : row[k]? = some x) : (rows.getD s []).getD k ⟨0, ⟨#[]⟩⟩ = x := by
  rw [List.getD_eq_getElem?_getD, List.getD_eq_getElem?_getD, h1, Option.getD_some, h2, Option.getD_some]
end
set_option maxRecDepth 100000 in
set_option maxHeartbeats 8000000 in
theorem pAgree_any (q bl I : Int) (v vc vo : Value) (rows : List (List Cl)) (n : Int) (c : List Ins) (o : List Int) (w : World) (hM : MC w v rows) (hc : Sl 3 w vc c.length (icells c)) (ho : Sl 1 w vo o.length (ints o)) (hI64 : eErr q bl I rows = 0 → I ≤ 64) :
    Calls Tryz.prog 13 #[.agg #[.int .i64 q, .int .i64 bl, .int .i64 I, v], .agg #[.int .i64 n, vc, vo]] w fun e w' => e = .returned (.tuple #[.bool (agreeR q bl I rows n c o).1, .int .i64 (agreeR q bl I rows n c o).2]) ∧ Below w.heap.size w w' := by
  have HM := hid hM
  have HC := hid hc
  have HO := hid ho
  have HCk := hid (fun X h1 h2 h3 => pfit_any q bl I v vc vo rows n c o X h1 h2 h3 hI64)
  obtain ⟨am, cap, rfl, hm1, hm2⟩ := hM.slice
  by_cases hF : fitV q bl I rows n c o = 0
  · rw [hF] at HCk
    have hAv : agreeR q bl I rows n c o = (agreeV q.toNat bl.toNat I.toNat rows c o, 0) := by
      unfold agreeR
      rw [if_neg (by simp [hF])]
    rw [hAv]
    clear hAv
    obtain ⟨q, bl, I, rfl, rfl, rfl, rfl, hFit⟩ := fitV_zero hF hI64
    simp only [Int.toNat_natCast]
    have hi64 := hFit.i64
    have hr64 := hFit.e.r64
    have HSt := hid (fun s k X h1 h2 h3 hs hk => psay_any q bl I s k (.slice am rows.length cap) vc vo rows c o X h1 h2 h3 hFit hs hk)
    have HLen := hid (fun r (h : r ∈ rows) => show r.length = I by have := hFit.e.len r h; omega)
    obtain ⟨ac, cc, rfl, _, hc1, hc2, _⟩ := hc
    obtain ⟨ao, co, rfl, _, ho1, ho2, _⟩ := ho
    clear hM hF hI64 hFit
    obtain ⟨NN, hNN⟩ : ∃ NN, wid rows.length + wid I = NN := ⟨_, rfl⟩
    rw [hNN] at HCk HSt ⊢
    clear hNN
    obtain ⟨AV, hAV⟩ : ∃ AV, agreeV q bl I rows c o = AV := ⟨_, rfl⟩
    rw [hAV]
    have HAV := hid hAV
    clear hAV
    obtain ⟨nr, hnr⟩ : ∃ nr, rows.length = nr := ⟨_, rfl⟩
    have HN := hid hnr
    rw [hnr] at hr64 hm1 HM HCk HSt ⊢
    clear hnr
    obtain ⟨CL, hCL⟩ : ∃ CL, c.length = CL := ⟨_, rfl⟩
    obtain ⟨OL, hOL⟩ : ∃ OL, o.length = OL := ⟨_, rfl⟩
    rw [hCL] at HC hc1 HCk HSt ⊢
    rw [hOL] at HO ho1 HCk HSt ⊢
    clear hCL hOL
    go_enter Tryz.func13, Tryz.ntmps13
    go_upto_region 1 with fail
    obtain ⟨w0, hw0⟩ : ∃ w0, (w.alloc (.cells #[.int .i64 (q : Int), .int .i64 (bl : Int), .int .i64 (I : Int), .slice am nr cap] 24)).alloc (.cells #[.int .i64 (NN : Int), .slice ac CL cc, .slice ao OL co] 28) = w0 := ⟨_, rfl⟩
    obtain ⟨hb0, hz0, c0, c1, c2, c3, p0, p1, p2⟩ := box2E hw0
    rw [hw0]
    have HB0 := hid hb0
    clear hw0 hb0 hz0
    go_upto_region 5 with (go_at_call 35; refine (HCk.out _ (HM.out.below HB0.out) (HC.out.below HB0.out) (HO.out.below HB0.out)).mono ?_; rintro e w1 ⟨rfl, hb1⟩; have HB1 := hid (bel_step HB0.out hb1); have c0 := keeps hb1 c0; have c1 := keeps hb1 c1; have c2 := keeps hb1 c2; have c3 := keeps hb1 c3; have p0 := keeps hb1 p0; have p1 := keeps hb1 p1; have p2 := keeps hb1 p2; clear hb1)
    have HCs := hid (fun X (h : Below w1.heap.size w1 X) => (show X.cell? ⟨w.heap.size, 0, none⟩ = some (.int .i64 (q : Int)) ∧ X.cell? ⟨w.heap.size, 1, none⟩ = some (.int .i64 (bl : Int)) ∧ X.cell? ⟨w.heap.size, 2, none⟩ = some (.int .i64 (I : Int)) ∧ X.cell? ⟨w.heap.size, 3, none⟩ = some (.slice am nr cap) ∧ X.cell? ⟨w.heap.size + 1, 0, none⟩ = some (.int .i64 (NN : Int)) ∧ X.cell? ⟨w.heap.size + 1, 1, none⟩ = some (.slice ac CL cc) ∧ X.cell? ⟨w.heap.size + 1, 2, none⟩ = some (.slice ao OL co) from ⟨keeps h c0, keeps h c1, keeps h c2, keeps h c3, keeps h p0, keeps h p1, keeps h p2⟩))
    clear c0 c1 c2 c3 p0 p1 p2 HCk
    go_loopw [20] (fun i wr => ∃ s : Nat, s ≤ nr ∧ i = .int .i64 (s : Int) ∧ Hid (Said q bl I rows c o s 0) ∧ Hid (Below w1.heap.size w1 wr)) (fun i _ => nr - (intOf i).toNat)
    case atStart => exact ⟨0, Nat.zero_le _, rfl, hid (fun i j h => by omega), hid (Below.refl _ _)⟩
    case round =>
      obtain ⟨s, hs, rfl, HSa, HBs⟩ := hrel
      rename World => ws
      have HCw := hid (HCs.out ws HBs.out)
      by_cases hsn : s < nr
      · obtain ⟨row, hrow⟩ := some_of_lt (show s < rows.length by rw [HN.out]; exact hsn)
        obtain ⟨br, o2, r, cr, rfl, n1, hSl⟩ := HM.out.row hrow
        have n1 := keeps HBs.out (keeps HB1.out n1)
        have hrl : row.length = I := HLen.out row (List.mem_of_getElem? hrow)
        have HR := hid hrow
        have HSl := hid hSl
        have HRl := hid hrl
        have hsI : (s : Int) < (nr : Int) := by omega
        clear hrow hSl hrl
        go_upto_region 8 with fail
        clear n1
        go_loopw [27] (fun i wr => ∃ k : Nat, k ≤ row.length ∧ i = .int .i64 (k : Int) ∧ Hid (Said q bl I rows c o s k) ∧ Hid (Below w1.heap.size w1 wr)) (fun i _ => row.length - (intOf i).toNat)
        case atStart => exact ⟨0, Nat.zero_le _, rfl, HSa, HBs⟩
        case round =>
          clear HSa HBs HCw
          obtain ⟨k, hk, rfl, HSa, HBk⟩ := hrel
          rename World => wk
          by_cases hkn : k < row.length
          · obtain ⟨x, hx⟩ := some_of_lt hkn
            obtain ⟨b2, o3, rfl, m1, m2⟩ := (HSl.out.below (bel_step HB1.out HBk.out)).cl hx
            have HX := hid (cell_get HR.out hx)
            have HStk := hid (fun X h1 h2 h3 => HSt.out s k X h1 h2 h3 (by omega) (by have := HRl.out; omega))
            have hkI : (k : Int) < (row.length : Int) := by omega
            have hk64 : k < 64 := by have := HRl.out; omega
            clear hx
            rw [← HN.out] at HStk
            obtain ⟨y, hy⟩ : ∃ y, sayCl q bl I rows.length c o s k = y := ⟨_, rfl⟩
            have HY := hid hy
            rw [hy] at HStk
            rw [HN.out] at HStk
            clear hy
            go_upto_region 10 with fail
            obtain ⟨wx, hwx⟩ : ∃ wx, wk.alloc (.cells #[.int .i64 x.st, .string x.word] 45) = wx := ⟨_, rfl⟩
            obtain ⟨hbx, y0, y1⟩ := boxedC hwx
            rw [hwx]
            have HBx := hid (bel_step HBk.out hbx)
            obtain ⟨c0, c1, c2, c3, p0, p1, p2⟩ := HCs.out wx HBx.out
            have HDx := hid (show Below wx.heap.size wx wx.drew from below_drewN (Below.refl _ _) 1)
            clear hwx hbx m1 m2
            generalize wk.heap.size = bx at *
            have hr := fun w => run_neq_cell y x w
            have hgd := fun o p q w => guard_cell o p q y x w
            by_cases hq : eqCl y x = true
            · rw [hq] at hr
              have HN2 := hid (show Said q bl I rows c o s (k + 1) from HSa.out.next (by rw [HX.out, HY.out, eqCl_comm]; exact hq))
              clear hq
              go_region_held3 (fun w' => w'.cell? ⟨w.heap.size, 0, none⟩ = some (.int .i64 (q : Int)) ∧ w'.cell? ⟨w.heap.size, 1, none⟩ = some (.int .i64 (bl : Int)) ∧ w'.cell? ⟨w.heap.size, 2, none⟩ = some (.int .i64 (I : Int)) ∧ w'.cell? ⟨w.heap.size, 3, none⟩ = some (.slice (some ⟨br, o2, none⟩) nr cap) ∧ w'.cell? ⟨w.heap.size + 1, 0, none⟩ = some (.int .i64 (NN : Int)) ∧ w'.cell? ⟨w.heap.size + 1, 1, none⟩ = some (.slice ac CL cc) ∧ w'.cell? ⟨w.heap.size + 1, 2, none⟩ = some (.slice ao OL co) ∧ w'.cell? ⟨bx, 0, none⟩ = some (.int .i64 x.st) ∧ w'.cell? ⟨bx, 1, none⟩ = some (.string x.word))
                (first | exact ⟨c0, c1, c2, c3, p0, p1, p2, y0, y1⟩ | go_keep)
                (first | (go_at_call 36; refine (HStk.out _ (HM.out.below (bel_step HB1.out (bel_step HBx.out HDx.out))) (HC.out.below (bel_step HB1.out (bel_step HBx.out HDx.out))) (HO.out.below (bel_step HB1.out (bel_step HBx.out HDx.out)))).mono ?_; rintro e w5 ⟨rfl, hb5⟩; have hb5 := bel_step HDx.out hb5; have HB5 := hid (bel_step HBx.out hb5); have c0 := keeps hb5 c0; have c1 := keeps hb5 c1; have c2 := keeps hb5 c2; have c3 := keeps hb5 c3; have p0 := keeps hb5 p0; have p1 := keeps hb5 p1; have p2 := keeps hb5 p2; have y0 := keeps hb5 y0; have y1 := keeps hb5 y1; clear hb5))
              all_goals
                go_wp2
                case roundEnd => exact ⟨⟨k + 1, by omega, by go_num, HN2, HB5⟩, by simp [intOf]; omega⟩
            · have hq : _ = false := Bool.eq_false_iff.2 hq
              rw [hq] at hr
              have HA2 := hid (show AV = false by
                rw [← HAV.out]
                exact said_not (s := s) (k := k) (by rw [HN.out]; exact hsn) (by have := HRl.out; omega) (by rw [HX.out, HY.out, eqCl_comm, hq]; decide))
              clear hq
              go_region_held3 (fun w' => w'.cell? ⟨w.heap.size, 0, none⟩ = some (.int .i64 (q : Int)) ∧ w'.cell? ⟨w.heap.size, 1, none⟩ = some (.int .i64 (bl : Int)) ∧ w'.cell? ⟨w.heap.size, 2, none⟩ = some (.int .i64 (I : Int)) ∧ w'.cell? ⟨w.heap.size, 3, none⟩ = some (.slice (some ⟨br, o2, none⟩) nr cap) ∧ w'.cell? ⟨w.heap.size + 1, 0, none⟩ = some (.int .i64 (NN : Int)) ∧ w'.cell? ⟨w.heap.size + 1, 1, none⟩ = some (.slice ac CL cc) ∧ w'.cell? ⟨w.heap.size + 1, 2, none⟩ = some (.slice ao OL co) ∧ w'.cell? ⟨bx, 0, none⟩ = some (.int .i64 x.st) ∧ w'.cell? ⟨bx, 1, none⟩ = some (.string x.word))
                (first | exact ⟨c0, c1, c2, c3, p0, p1, p2, y0, y1⟩ | go_keep)
                (first | (go_at_call 36; refine (HStk.out _ (HM.out.below (bel_step HB1.out (bel_step HBx.out HDx.out))) (HC.out.below (bel_step HB1.out (bel_step HBx.out HDx.out))) (HO.out.below (bel_step HB1.out (bel_step HBx.out HDx.out)))).mono ?_; rintro e w5 ⟨rfl, hb5⟩; have hb5 := bel_step HDx.out hb5; have HB5 := hid (bel_step HBx.out hb5); have c0 := keeps hb5 c0; have c1 := keeps hb5 c1; have c2 := keeps hb5 c2; have c3 := keeps hb5 c3; have p0 := keeps hb5 p0; have p1 := keeps hb5 p1; have p2 := keeps hb5 p2; have y0 := keeps hb5 y0; have y1 := keeps hb5 y1; clear hb5))
              all_goals
                go_wp2
                go_ret2
                exact ⟨by rw [HA2.out]; rfl, bel_step HB1.out HB5.out⟩
          · have HRw := hid (show Said q bl I rows c o (s + 1) 0 from by
              have h := HSa.out
              rw [show k = I by have := HRl.out; omega] at h
              exact h.row)
            obtain rfl : k = row.length := by omega
            go_wp2
            case roundEnd => exact ⟨⟨s + 1, by omega, by go_num, HRw, HBk⟩, by simp [intOf]; omega⟩
      · obtain ⟨c0, c1, c2, c3, p0, p1, p2⟩ := HCw.out
        have HA2 := hid (show AV = true by
          rw [← HAV.out]
          have h := HSa.out
          rw [show s = rows.length by rw [HN.out]; omega] at h
          exact h.all)
        obtain rfl : s = nr := by omega
        go_wp2
        go_ret2
        exact ⟨by rw [HA2.out]; rfl, bel_step HB1.out HBs.out⟩
  · have hAv : agreeR q bl I rows n c o = (false, fitV q bl I rows n c o) := by
      unfold agreeR
      rw [if_pos hF]
    rw [hAv]
    obtain ⟨ac, cc, rfl, _, hc1, hc2, _⟩ := hc
    obtain ⟨ao, co, rfl, _, ho1, ho2, _⟩ := ho
    have hF2 : (fitV q bl I rows n c o != 0) = true := by simp [hF]
    clear hM hI64 hAv hF
    generalize fitV q bl I rows n c o = fv at *
    generalize rows.length = nr at *
    generalize c.length = CL at *
    generalize o.length = OL at *
    go_enter Tryz.func13, Tryz.ntmps13
    go_upto_region 1 with fail
    obtain ⟨w0, hw0⟩ : ∃ w0, (w.alloc (.cells #[.int .i64 q, .int .i64 bl, .int .i64 I, .slice am nr cap] 24)).alloc (.cells #[.int .i64 n, .slice ac CL cc, .slice ao OL co] 28) = w0 := ⟨_, rfl⟩
    obtain ⟨hb0, hz0, c0, c1, c2, c3, p0, p1, p2⟩ := box2E hw0
    rw [hw0]
    have HB0 := hid hb0
    clear hw0 hb0 hz0
    go_wp2_with (go_at_call 35; refine (HCk.out _ (HM.out.below HB0.out) (HC.out.below HB0.out) (HO.out.below HB0.out)).mono ?_; rintro e w1 ⟨rfl, hb1⟩; have HB1 := hid (bel_step HB0.out hb1); have c0 := keeps hb1 c0; have c1 := keeps hb1 c1; have c2 := keeps hb1 c2; have c3 := keeps hb1 c3; have p0 := keeps hb1 p0; have p1 := keeps hb1 p1; have p2 := keeps hb1 p2; clear hb1)
    go_ret2
    exact ⟨rfl, HB1.out⟩
set_option maxRecDepth 100000 in
set_option maxHeartbeats 8000000 in
theorem rAgree_any (q bl I : Int) (v vc vo : Value) (rows : List (List Cl)) (n : Int) (c : List Ins) (o : List Int) (w : World) (hM : MC w v rows) (hc : Sl 3 w vc c.length (icells c)) (ho : Sl 1 w vo o.length (ints o)) (hI64 : eErr q bl I rows = 0 → I ≤ 64) :
    Calls Tryz.prog 14 #[.agg #[.int .i64 q, .int .i64 bl, .int .i64 I, v], .agg #[.int .i64 n, vc, vo]] w fun e w' => e = .returned (.tuple #[.bool (agreeR q bl I rows n c o).1, .int .i64 (agreeR q bl I rows n c o).2]) ∧ Below w.heap.size w w' := by
  have HM := hid hM
  have HC := hid hc
  have HO := hid ho
  have HCk := hid (fun X h1 h2 h3 => rfit_any q bl I v vc vo rows n c o X h1 h2 h3 hI64)
  obtain ⟨am, cap, rfl, hm1, hm2⟩ := hM.slice
  by_cases hF : fitV q bl I rows n c o = 0
  · rw [hF] at HCk
    have hAv : agreeR q bl I rows n c o = (agreeV q.toNat bl.toNat I.toNat rows c o, 0) := by
      unfold agreeR
      rw [if_neg (by simp [hF])]
    rw [hAv]
    clear hAv
    obtain ⟨q, bl, I, rfl, rfl, rfl, rfl, hFit⟩ := fitV_zero hF hI64
    simp only [Int.toNat_natCast]
    have hi64 := hFit.i64
    have hr64 := hFit.e.r64
    have HSt := hid (fun s k X h1 h2 h3 hs hk => rsay_any q bl I s k (.slice am rows.length cap) vc vo rows c o X h1 h2 h3 hFit hs hk)
    have HLen := hid (fun r (h : r ∈ rows) => show r.length = I by have := hFit.e.len r h; omega)
    obtain ⟨ac, cc, rfl, _, hc1, hc2, _⟩ := hc
    obtain ⟨ao, co, rfl, _, ho1, ho2, _⟩ := ho
    clear hM hF hI64 hFit
    obtain ⟨NN, hNN⟩ : ∃ NN, wid rows.length + wid I = NN := ⟨_, rfl⟩
    rw [hNN] at HCk HSt ⊢
    clear hNN
    obtain ⟨AV, hAV⟩ : ∃ AV, agreeV q bl I rows c o = AV := ⟨_, rfl⟩
    rw [hAV]
    have HAV := hid hAV
    clear hAV
    obtain ⟨nr, hnr⟩ : ∃ nr, rows.length = nr := ⟨_, rfl⟩
    have HN := hid hnr
    rw [hnr] at hr64 hm1 HM HCk HSt ⊢
    clear hnr
    obtain ⟨CL, hCL⟩ : ∃ CL, c.length = CL := ⟨_, rfl⟩
    obtain ⟨OL, hOL⟩ : ∃ OL, o.length = OL := ⟨_, rfl⟩
    rw [hCL] at HC hc1 HCk HSt ⊢
    rw [hOL] at HO ho1 HCk HSt ⊢
    clear hCL hOL
    go_enter Tryz.func14, Tryz.ntmps14
    go_upto_region 1 with fail
    obtain ⟨w0, hw0⟩ : ∃ w0, (w.alloc (.cells #[.int .i64 (q : Int), .int .i64 (bl : Int), .int .i64 (I : Int), .slice am nr cap] 24)).alloc (.cells #[.int .i64 (NN : Int), .slice ac CL cc, .slice ao OL co] 28) = w0 := ⟨_, rfl⟩
    obtain ⟨hb0, hz0, c0, c1, c2, c3, p0, p1, p2⟩ := box2E hw0
    rw [hw0]
    have HB0 := hid hb0
    clear hw0 hb0 hz0
    go_upto_region 5 with (go_at_call 37; refine (HCk.out _ (HM.out.below HB0.out) (HC.out.below HB0.out) (HO.out.below HB0.out)).mono ?_; rintro e w1 ⟨rfl, hb1⟩; have HB1 := hid (bel_step HB0.out hb1); have c0 := keeps hb1 c0; have c1 := keeps hb1 c1; have c2 := keeps hb1 c2; have c3 := keeps hb1 c3; have p0 := keeps hb1 p0; have p1 := keeps hb1 p1; have p2 := keeps hb1 p2; clear hb1)
    have HCs := hid (fun X (h : Below w1.heap.size w1 X) => (show X.cell? ⟨w.heap.size, 0, none⟩ = some (.int .i64 (q : Int)) ∧ X.cell? ⟨w.heap.size, 1, none⟩ = some (.int .i64 (bl : Int)) ∧ X.cell? ⟨w.heap.size, 2, none⟩ = some (.int .i64 (I : Int)) ∧ X.cell? ⟨w.heap.size, 3, none⟩ = some (.slice am nr cap) ∧ X.cell? ⟨w.heap.size + 1, 0, none⟩ = some (.int .i64 (NN : Int)) ∧ X.cell? ⟨w.heap.size + 1, 1, none⟩ = some (.slice ac CL cc) ∧ X.cell? ⟨w.heap.size + 1, 2, none⟩ = some (.slice ao OL co) from ⟨keeps h c0, keeps h c1, keeps h c2, keeps h c3, keeps h p0, keeps h p1, keeps h p2⟩))
    clear c0 c1 c2 c3 p0 p1 p2 HCk
    go_loopw [7] (fun i wr => ∃ s : Nat, s ≤ nr ∧ i = .int .i64 (s : Int) ∧ Hid (Said q bl I rows c o s 0) ∧ Hid (Below w1.heap.size w1 wr)) (fun i _ => nr - (intOf i).toNat)
    case atStart => exact ⟨0, Nat.zero_le _, rfl, hid (fun i j h => by omega), hid (Below.refl _ _)⟩
    case round =>
      obtain ⟨s, hs, rfl, HSa, HBs⟩ := hrel
      rename World => ws
      have HCw := hid (HCs.out ws HBs.out)
      by_cases hsn : s < nr
      · obtain ⟨row, hrow⟩ := some_of_lt (show s < rows.length by rw [HN.out]; exact hsn)
        obtain ⟨br, o2, r, cr, rfl, n1, hSl⟩ := HM.out.row hrow
        have n1 := keeps HBs.out (keeps HB1.out n1)
        have hrl : row.length = I := HLen.out row (List.mem_of_getElem? hrow)
        have HR := hid hrow
        have HSl := hid hSl
        have HRl := hid hrl
        have hsI : (s : Int) < (nr : Int) := by omega
        clear hrow hSl hrl
        obtain ⟨c0, c1, c2, c3, p0, p1, p2⟩ := HCw.out
        go_upto_region 8 with fail
        clear c0 c1 c2 c3 p0 p1 p2
        go_loopw [8] (fun i wr => ∃ k : Nat, k ≤ I ∧ i = .int .i64 (k : Int) ∧ Hid (Said q bl I rows c o s k) ∧ Hid (Below w1.heap.size w1 wr)) (fun i _ => I - (intOf i).toNat)
        case atStart => exact ⟨0, Nat.zero_le _, rfl, HSa, HBs⟩
        case round =>
          clear HSa HBs HCw n1
          obtain ⟨k, hk, rfl, HSa, HBk⟩ := hrel
          rename World => wk
          obtain ⟨c0, c1, c2, c3, p0, p1, p2⟩ := HCs.out wk HBk.out
          by_cases hkn : k < I
          · obtain ⟨x, hx⟩ := some_of_lt (show k < row.length by rw [HRl.out]; exact hkn)
            have HX := hid (cell_get HR.out hx)
            have HStk := hid (fun X h1 h2 h3 => HSt.out s k X h1 h2 h3 (by omega) (by omega))
            have hkI : (k : Int) < (I : Int) := by omega
            have hkR : (k : Int) < (row.length : Int) := by rw [HRl.out]; exact hkI
            have HXx := hid hx
            clear hx
            rw [← HN.out] at HStk
            obtain ⟨y, hy⟩ : ∃ y, sayCl q bl I rows.length c o s k = y := ⟨_, rfl⟩
            have HY := hid hy
            rw [hy] at HStk
            rw [HN.out] at HStk
            clear hy
            go_upto_region 11 with (go_at_call 38; refine (HStk.out _ (HM.out.below (bel_step HB1.out HBk.out)) (HC.out.below (bel_step HB1.out HBk.out)) (HO.out.below (bel_step HB1.out HBk.out))).mono ?_; rintro e w5 ⟨rfl, hb5⟩; have HB5 := hid (bel_step HBk.out hb5); have c0 := keeps hb5 c0; have c1 := keeps hb5 c1; have c2 := keeps hb5 c2; have c3 := keeps hb5 c3; have p0 := keeps hb5 p0; have p1 := keeps hb5 p1; have p2 := keeps hb5 p2; clear hb5)
            obtain ⟨br', o2', r', cr', e0, n1, hSl⟩ := HM.out.row HR.out
            simp only [Option.some.injEq, Addr.mk.injEq, and_true] at e0
            obtain ⟨rfl, rfl⟩ := e0
            have n1 := keeps HB5.out (keeps HB1.out n1)
            obtain ⟨b2, o3, rfl, m1, m2⟩ := (hSl.below (bel_step HB1.out HB5.out)).cl HXx.out
            clear hSl
            have hr := fun w => run_neq_cell x y w
            have hgd := fun o p q w => guard_cell o p q x y w
            by_cases hq : eqCl x y = true
            · rw [hq] at hr
              have HN2 := hid (show Said q bl I rows c o s (k + 1) from HSa.out.next (by rw [HX.out, HY.out]; exact hq))
              clear hq
              go_wp2
              case roundEnd => exact ⟨⟨k + 1, by omega, by go_num, HN2, HB5⟩, by simp [intOf]; omega⟩
            · have hq : _ = false := Bool.eq_false_iff.2 hq
              rw [hq] at hr
              have HA2 := hid (show AV = false by
                rw [← HAV.out]
                exact said_not (s := s) (k := k) (by rw [HN.out]; exact hsn) hkn (by rw [HX.out, HY.out, hq]; decide))
              clear hq
              go_wp2
              go_ret2
              exact ⟨by rw [HA2.out]; rfl, bel_step HB1.out HB5.out⟩
          · have HRw := hid (show Said q bl I rows c o (s + 1) 0 from by
              have h := HSa.out
              rw [show k = I by omega] at h
              exact h.row)
            obtain rfl : k = I := by omega
            go_wp2
            case roundEnd => exact ⟨⟨s + 1, by omega, by go_num, HRw, HBk⟩, by simp [intOf]; omega⟩
      · obtain ⟨c0, c1, c2, c3, p0, p1, p2⟩ := HCw.out
        have HA2 := hid (show AV = true by
          rw [← HAV.out]
          have h := HSa.out
          rw [show s = rows.length by rw [HN.out]; omega] at h
          exact h.all)
        obtain rfl : s = nr := by omega
        go_wp2
        go_ret2
        exact ⟨by rw [HA2.out]; rfl, bel_step HB1.out HBs.out⟩
  · have hAv : agreeR q bl I rows n c o = (false, fitV q bl I rows n c o) := by
      unfold agreeR
      rw [if_pos hF]
    rw [hAv]
    obtain ⟨ac, cc, rfl, _, hc1, hc2, _⟩ := hc
    obtain ⟨ao, co, rfl, _, ho1, ho2, _⟩ := ho
    have hF2 : (fitV q bl I rows n c o != 0) = true := by simp [hF]
    clear hM hI64 hAv hF
    generalize fitV q bl I rows n c o = fv at *
    generalize rows.length = nr at *
    generalize c.length = CL at *
    generalize o.length = OL at *
    go_enter Tryz.func14, Tryz.ntmps14
    go_upto_region 1 with fail
    obtain ⟨w0, hw0⟩ : ∃ w0, (w.alloc (.cells #[.int .i64 q, .int .i64 bl, .int .i64 I, .slice am nr cap] 24)).alloc (.cells #[.int .i64 n, .slice ac CL cc, .slice ao OL co] 28) = w0 := ⟨_, rfl⟩
    obtain ⟨hb0, hz0, c0, c1, c2, c3, p0, p1, p2⟩ := box2E hw0
    rw [hw0]
    have HB0 := hid hb0
    clear hw0 hb0 hz0
    go_wp2_with (go_at_call 37; refine (HCk.out _ (HM.out.below HB0.out) (HC.out.below HB0.out) (HO.out.below HB0.out)).mono ?_; rintro e w1 ⟨rfl, hb1⟩; have HB1 := hid (bel_step HB0.out hb1); have c0 := keeps hb1 c0; have c1 := keeps hb1 c1; have c2 := keeps hb1 c2; have c3 := keeps hb1 c3; have p0 := keeps hb1 p0; have p1 := keeps hb1 p1; have p2 := keeps hb1 p2; clear hb1)
    go_ret2
    exact ⟨rfl, HB1.out⟩
end Go.Proofs.YtcdfghogmdhfcaaGreatDoor
